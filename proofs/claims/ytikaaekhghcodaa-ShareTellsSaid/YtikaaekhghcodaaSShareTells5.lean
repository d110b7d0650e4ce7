/- A region that draws its order: loads are taken first, and its last operation, for which all others wait, may write what they read. Objects that can't be told apart, plain: how far two are from being told apart; the first of the shortest ways. -/
import Derived.OrdersHeld
import Derived.StillTail
import Derived.Deep.RegionHeld
set_option linter.unusedSimpArgs false
set_option linter.unusedVariables false
namespace Go.Proofs.Ytikaaekhghcodaa
section
variable {P : Program} {ops : Array Oper} {Q : Exit → Act → World → Prop} {md : Region.Mode} {S : World → Prop} {z : Nat}
/-- Whatever order is picked from here on; S holds behind every operation but the one numbered z. -/
def wpAnyZ (P : Program) (md : Region.Mode) (ops : Array Oper) (Q : Exit → Act → World → Prop) (S : World → Prop) (z : Nat) : Nat → Array Bool → Act → World → Prop
  | 0, listed, a, w => Region.ready md ops listed = [] ∧ Q .normal a w
  | fuel + 1, listed, a, w =>
    (Region.ready md ops listed = [] → Q .normal a w) ∧
    ∀ i ∈ Region.ready md ops listed, wpOp P ops Q i (fun a' w' => (i ≠ z → S w') ∧ wpAnyZ P md ops Q S z fuel (listed.setIfInBounds i true) a' w') a w
theorem wpAny_of_z : ∀ (fuel : Nat) (listed : Array Bool) (a : Act) (w : World), wpAnyZ P md ops Q S z fuel listed a w → wpAny P md ops Q fuel listed a w
  | 0, _, _, _, h => h
  | fuel + 1, _, _, _, h => ⟨h.1, fun i hi => wpOp_mono (fun a' w' h' => wpAny_of_z fuel _ a' w' h'.2) (h.2 i hi)⟩
/-- What has come up waits for nothing that has not. -/
def Clo (md : Region.Mode) (ops : Array Oper) (listed : Array Bool) : Prop := ∀ j oj, ops[j]? = some oj → listed.getD j false = true → ∀ e ∈ oj.after, Region.binds md e = true → listed.getD e.on false = true
theorem Clo.start (n : Nat) : Clo md ops (Array.replicate n false) := fun j _ _ h => by rw [getD_replicate_false] at h; cases h
theorem Clo.set {i : Nat} {listed : Array Bool} (h : Clo md ops listed) (hi : i ∈ Region.ready md ops listed) : Clo md ops (listed.setIfInBounds i true) := by
  obtain ⟨_, oi, hoi, hall⟩ := mem_ready.1 hi
  intro j oj hj hl e he hb
  by_cases hij : i = j
  · subst hij
    have : oj = oi := Option.some.inj (hj.symm.trans hoi)
    subst this
    exact getD_set_true (hall e he hb)
  · rw [getD_set_ne false hij] at hl
    exact getD_set_true (h j oj hj hl e he hb)
/-- Number z waits for number i, or for one that does. -/
def waits2 (md : Region.Mode) (ops : Array Oper) (z i : Nat) : Bool := Region.waitsFor md ops z i || (List.range ops.size).any fun j => Region.waitsFor md ops z j && Region.waitsFor md ops j i
theorem waits2_spec {i : Nat} {listed : Array Bool} (hc : Clo md ops listed) (hz : waits2 md ops z i = true) (hr : z ∈ Region.ready md ops listed) : listed.getD i false = true := by
  obtain ⟨_, oz, hoz, hall⟩ := mem_ready.1 hr
  unfold waits2 at hz
  rw [Bool.or_eq_true] at hz
  rcases hz with h | h
  · obtain ⟨o', ho', e, he, hb, hon⟩ := Region.waitsFor_spec h
    have : o' = oz := Option.some.inj (ho'.symm.trans hoz)
    subst this
    rw [← hon]; exact hall e he hb
  · obtain ⟨j, _, hj⟩ := List.any_eq_true.1 h
    rw [Bool.and_eq_true] at hj
    obtain ⟨o', ho', e, he, hb, hon⟩ := Region.waitsFor_spec hj.1
    have : o' = oz := Option.some.inj (ho'.symm.trans hoz)
    subst this
    have h1 := hall e he hb
    rw [hon] at h1
    obtain ⟨oj, hoj, e2, he2, hb2, hon2⟩ := Region.waitsFor_spec hj.2
    rw [← hon2]; exact hc j oj hoj h1 e2 he2 hb2
theorem wpAnyZ_first {i : Nat} {oi : Oper} {v : Value} (hi : ops[i]? = some oi) (hsel : ∀ (j : Nat) (o : Oper) cs b, ops[j]? = some o → o.op ≠ .select cs b)
    (hQ : ∀ c a w, Q (.panic c) (a.put oi.dst v) w → Q (.panic c) a w) (hz : waits2 md ops z i = true) :
    ∀ (fuel : Nat) (listed : Array Bool) (a : Act) (w : World), Clo md ops listed →
      (∀ j oj, ops[j]? = some oj → j ≠ i → listed.getD j true = false → (∀ e ∈ oj.after, Region.binds md e = true → e.on ≠ i) → oi.apart ops oj = true) →
      i ∈ Region.ready md ops listed → YieldsIf P ops S oi v a → S w →
      wpAnyZ P md ops Q S z fuel (listed.setIfInBounds i true) (a.put oi.dst v) w → wpAnyZ P md ops Q S z (fuel + 1) listed a w := by
  intro fuel
  induction fuel with
  | zero =>
    intro listed a w _ _ hr hy hS H
    refine ⟨fun h => (by rw [h] at hr; cases hr), fun j hj => ?_⟩
    by_cases hji : j = i
    · subst hji; exact hy.wpOp hi hS ⟨fun _ => hS, H⟩
    · have := ready_mono hj hji
      rw [H.1] at this
      cases this
  | succ fuel ih =>
    intro listed a w hcl hfree hr hy hS H
    refine ⟨fun h => (by rw [h] at hr; cases hr), fun j hj => ?_⟩
    by_cases hji : j = i
    · subst hji; exact hy.wpOp hi hS ⟨fun _ => hS, H⟩
    · have h1 := H.2 j (ready_mono hj hji)
      obtain ⟨hjun, oj, hoj, hall⟩ := mem_ready.1 hj
      have hnot : ∀ e ∈ oj.after, Region.binds md e = true → e.on ≠ i := fun e he hb heq => by
        have h1 := hall e he hb
        have h0 := (mem_ready.1 hr).1
        rw [heq] at h1
        rcases Nat.lt_or_ge i listed.size with h' | h'
        · simp [h'] at h0 h1; rw [h0] at h1; cases h1
        · simp [Array.getElem?_eq_none h'] at h1
      have hjz : j ≠ z := by
        rintro rfl
        have h1 := waits2_spec hcl hz hj
        have h0 := (mem_ready.1 hr).1
        rcases Nat.lt_or_ge i listed.size with h' | h'
        · simp [h'] at h0 h1; rw [h0] at h1; cases h1
        · simp [Array.getElem?_eq_none h'] at h1
      have h2 := wpOp_putIf hoj (hfree j oj hoj hji hjun hnot) (fun cs b => hsel i oi cs b hi) (fun cs b => hsel j oj cs b hoj) hQ hy h1
      have hfree' : ∀ k ok, ops[k]? = some ok → k ≠ i → (listed.setIfInBounds j true).getD k true = false →
          (∀ e ∈ ok.after, Region.binds md e = true → e.on ≠ i) → oi.apart ops ok = true := fun k ok hk hki hun hno => by
        refine hfree k ok hk hki ?_ hno
        by_cases hjk : j = k
        · subst hjk; exact hjun
        · rw [getD_set_ne true hjk] at hun; exact hun
      refine wpOp_mono (fun a' w' h3 => ⟨h3.2.1, ih (listed.setIfInBounds j true) a' w' (hcl.set hj) hfree' (ready_mono hr (Ne.symm hji)) h3.1 (h3.2.1 hjz) ?_⟩) h2
      rw [Array.setIfInBounds_comm _ _ hji]
      exact h3.2.2
/-- These are taken first, one after the other. -/
def takeB (md : Region.Mode) (ops : Array Oper) (z : Nat) : List Nat → Array Bool → Bool
  | [], _ => true
  | i :: l, listed => (Region.ready md ops listed).contains i && Region.free md ops listed i && waits2 md ops z i && (match ops[i]? with | some o => o.dst.isSome | none => false) && takeB md ops z l (listed.setIfInBounds i true)
def takeL : List Nat → Array Bool → Array Bool
  | [], listed => listed
  | i :: l, listed => takeL l (listed.setIfInBounds i true)
def wpTake (P : Program) (ops : Array Oper) (S : World → Prop) : List Nat → Act → (Act → Prop) → Prop
  | [], a, K => K a
  | i :: l, a, K => ∃ oi v, ops[i]? = some oi ∧ YieldsIf P ops S oi v a ∧ wpTake P ops S l (a.put oi.dst v) K
theorem wpTake_cons {i : Nat} {l : List Nat} {a : Act} {K : Act → Prop} {oi : Oper} {v : Value} (hi : ops[i]? = some oi) (hw : Region.wanted oi (yielded ops a.tmps) = true) (hy : ∀ w, S w → (execOp a.eval oi).run P w = .ok (.value v) w) (h : wpTake P ops S l (a.put oi.dst v) K) : wpTake P ops S (i :: l) a K :=
  ⟨oi, v, hi, .inl ⟨hw, hy⟩, h⟩
theorem wpTake_nil {a : Act} {K : Act → Prop} (h : K a) : wpTake P ops S [] a K := h
theorem wpAnyZ_takes (hs : Region.noSelect ops = true) (hQ : ∀ c a (d : Tmp) v w, Q (.panic c) (a.put (some d) v) w → Q (.panic c) a w) {w : World} (hS : S w) {fuel : Nat} : ∀ (l : List Nat) (listed : Array Bool) (a : Act), Clo md ops listed →
    takeB md ops z l listed = true → wpTake P ops S l a (fun a' => wpAnyZ P md ops Q S z fuel (takeL l listed) a' w) → wpAnyZ P md ops Q S z (fuel + l.length) listed a w
  | [], _, _, _, _, h => h
  | i :: l, listed, a, hcl, hB, h => by
    obtain ⟨oi, v, hi, hy, h2⟩ := h
    simp only [takeB, Bool.and_eq_true, decide_eq_true_eq] at hB
    obtain ⟨⟨⟨⟨h3, h4⟩, h5⟩, h8⟩, h7⟩ := hB
    have hr : i ∈ Region.ready md ops listed := by simpa using h3
    rw [hi] at h8
    obtain ⟨d, hd⟩ := Option.isSome_iff_exists.1 h8
    exact wpAnyZ_first hi (Region.noSelect_spec hs) (fun c a w => by rw [hd]; exact hQ c a d _ w) h5 (fuel + l.length) listed a w hcl (Region.free_spec hi h4) hr hy hS (wpAnyZ_takes hs hQ hS l _ _ (hcl.set hr) h7 h2)
theorem wp_region_z {id : Nat} {a : Act} {w : World} (z : Nat) (S : World → Prop) (hm : P.follows .mixedOrders = true)
    (h : wpAnyZ P .any ops Q S z ops.size (Array.replicate ops.size false) a w.drew) : (Code.region id ops true).wp P Q a w :=
  wp_region_any hm (wpAny_of_z _ _ _ _ h)
/-- One alone may come up. -/
theorem wpAnyZ_one {i : Nat} {o : Oper} {fuel : Nat} {listed : Array Bool} {a : Act} {w : World} (hr : Region.ready md ops listed = [i]) (ho : ops[i]? = some o)
    (h : ∀ K' : Act → World → Prop, Shut (∀ a w, (i ≠ z → S w) → wpAnyZ P md ops Q S z fuel (listed.setIfInBounds i true) a w → K' a w) → if Region.wanted o (yielded ops a.tmps) = true then Oper.wp P o a w K' Q else K' (a.put o.dst undef) w) :
    wpAnyZ P md ops Q S z (fuel + 1) listed a w := by
  refine ⟨fun h0 => (by rw [hr] at h0; cases h0), fun j hj => ?_⟩
  rw [hr] at hj
  obtain rfl : j = i := by simpa using hj
  exact wpOp_step ho (fun K' hK => h K' (fun a w hS hW => hK a w ⟨hS, hW⟩))
theorem wpAnyZ_done {fuel : Nat} {listed : Array Bool} {a : Act} {w : World} (hr : Region.ready md ops listed = []) (h : Q .normal a w) : wpAnyZ P md ops Q S z fuel listed a w := by
  cases fuel with
  | zero => exact ⟨hr, h⟩
  | succ n => exact ⟨fun _ => h, by rw [hr]; simp⟩
end
end Go.Proofs.Ytikaaekhghcodaa

namespace Go.Proofs.Ytikaaekhghcodaa
abbrev ShV := Bool × Int
abbrev Pr := Nat × Nat
def fldO (gs : List (List ShV)) (a k : Nat) : Option ShV := (gs.getD a [])[k]?
/-- A field tells both apart at once. -/
def difB (gs : List (List ShV)) (p : Pr) (k : Nat) : Bool :=
  match fldO gs p.1 k, fldO gs p.2 k with
  | none, none => false
  | some x, some y => !(x.1 && y.1) && decide (x ≠ y)
  | _, _ => true
/-- Both have a reference at a field. -/
def onwO (gs : List (List ShV)) (p : Pr) (k : Nat) : Option Pr :=
  match fldO gs p.1 k, fldO gs p.2 k with
  | some x, some y => if x.1 && y.1 then some (x.2.toNat, y.2.toNat) else none
  | _, _ => none
def tlB (gs : List (List ShV)) (m : Pr → Option Nat) (p : Pr) (k n : Nat) : Bool :=
  if n = 1 then difB gs p k else match onwO gs p k with | some q => m q == some (n - 1) | none => false
def anyT (gs : List (List ShV)) (m : Pr → Option Nat) (p : Pr) (n : Nat) : Bool := (List.range 4).any fun k => tlB gs m p k n
/-- What is known behind so many rounds. -/
def kn (gs : List (List ShV)) : Nat → Pr → Option Nat
  | 0, _ => none
  | n + 1, p => match kn gs n p with
    | some j => some j
    | none => if anyT gs (kn gs n) p (n + 1) = true then some (n + 1) else none
theorem kn_mono {gs : List (List ShV)} {p : Pr} {j : Nat} : ∀ {n n' : Nat}, n ≤ n' → kn gs n p = some j → kn gs n' p = some j := by
  intro n n' h
  induction h with
  | refl => exact id
  | step _ ih => intro h1; have h2 := ih h1; show (match kn gs _ p with | some j => some j | none => _) = _; rw [h2]
theorem kn_pos {gs : List (List ShV)} {p : Pr} {j : Nat} : ∀ {n : Nat}, kn gs n p = some j → 1 ≤ j ∧ j ≤ n ∧ kn gs j p = some j ∧ anyT gs (kn gs (j - 1)) p j = true
  | 0, h => by cases h
  | n + 1, h => by
    have h0 : kn gs (n + 1) p = match kn gs n p with | some j => some j | none => if anyT gs (kn gs n) p (n + 1) = true then some (n + 1) else none := rfl
    rw [h0] at h
    cases h1 : kn gs n p with
    | some i =>
      rw [h1] at h
      injection h with h
      subst h
      obtain ⟨g1, g2, g3, g4⟩ := kn_pos h1
      exact ⟨g1, by omega, g3, g4⟩
    | none =>
      rw [h1] at h
      dsimp only at h
      split at h
      · rename_i h2
        injection h with h
        subst h
        refine ⟨by omega, Nat.le_refl _, ?_, h2⟩
        rw [h0, h1]
        dsimp only
        rw [if_pos h2]
      · cases h
/-- How far two are from being told apart; a map that says so. -/
structure AprtOk (gs : List (List ShV)) (D : Pr → Prop) (m : Pr → Option Nat) : Prop where
  d1 : ∀ p d, m p = some d → 1 ≤ d ∧ ∃ k, k < 4 ∧ tlB gs m p k d = true
  d2 : ∀ p k, D p → k < 4 → difB gs p k = true → m p = some 1
  d3 : ∀ p k q e, D p → k < 4 → onwO gs p k = some q → m q = some e → ∃ d, d ≤ e + 1 ∧ m p = some d
theorem anyT_iff {gs : List (List ShV)} {m : Pr → Option Nat} {p : Pr} {n : Nat} : anyT gs m p n = true ↔ ∃ k, k < 4 ∧ tlB gs m p k n = true := by
  unfold anyT
  rw [List.any_eq_true]
  simp [List.mem_range]
theorem kn_ok {gs : List (List ShV)} {D : Pr → Prop} {N : Nat} (h : ∀ p, D p → kn gs (N + 1) p = kn gs N p) : AprtOk gs D (kn gs N) := by
  refine ⟨fun p d hd => ?_, fun p k hp hk hdf => ?_, fun p k q e hp hk ho he => ?_⟩
  · obtain ⟨h1, h2, _, h4⟩ := kn_pos hd
    refine ⟨h1, ?_⟩
    obtain ⟨k, hk, ht⟩ := anyT_iff.1 h4
    refine ⟨k, hk, ?_⟩
    unfold tlB at ht ⊢
    split
    · rename_i h5; rw [if_pos h5] at ht; exact ht
    · rename_i h5
      rw [if_neg h5] at ht
      cases ho : onwO gs p k with
      | none => rw [ho] at ht; cases ht
      | some q =>
        rw [ho] at ht
        dsimp only at ht ⊢
        have h6 : kn gs (d - 1) q = some (d - 1) := by simpa using ht
        rw [kn_mono (show d - 1 ≤ N by omega) h6]
        simp
  · have h1 : kn gs 1 p = some 1 := by
      show (if anyT gs (kn gs 0) p 1 = true then some 1 else none) = _
      rw [if_pos (anyT_iff.2 ⟨k, hk, by unfold tlB; rw [if_pos rfl]; exact hdf⟩)]
    rcases Nat.eq_zero_or_pos N with rfl | hN
    · rw [h p hp] at h1; exact h1
    · exact kn_mono hN h1
  · obtain ⟨h1, h2, h3, _⟩ := kn_pos he
    have h4 : ∃ d, d ≤ e + 1 ∧ kn gs (e + 1) p = some d := by
      cases h5 : kn gs e p with
      | some j =>
        exact ⟨j, by have := (kn_pos h5).2.1; omega, kn_mono (Nat.le_succ e) h5⟩
      | none =>
        refine ⟨e + 1, Nat.le_refl _, ?_⟩
        show (match kn gs e p with | some j => some j | none => if anyT gs (kn gs e) p (e + 1) = true then some (e + 1) else none) = _
        rw [h5]
        dsimp only
        rw [if_pos (anyT_iff.2 ⟨k, hk, by
          unfold tlB
          rw [if_neg (by omega), ho]
          dsimp only
          rw [Nat.add_sub_cancel, h3]
          simp⟩)]
    obtain ⟨d, hd, h5⟩ := h4
    refine ⟨d, hd, ?_⟩
    rcases Nat.lt_or_ge e N with h6 | h6
    · exact kn_mono h6 h5
    · obtain rfl : e = N := by omega
      rw [h p hp] at h5; exact h5
/-! ### The program's way. -/
def toldW (gs : List (List ShV)) (m : Pr → Option Nat) : Nat → Pr → List Nat
  | 0, _ => []
  | n + 1, p => match (List.range 4).find? fun k => tlB gs m p k (n + 1) with
    | none => []
    | some k => k :: toldW gs m n ((onwO gs p k).getD p)
/-! ### The reference's search. -/
def exK (gs : List (List ShV)) (x : (Pr × List Nat) × Nat) (s : List Pr × List (Pr × List Nat)) : List Pr × List (Pr × List Nat) :=
  match onwO gs x.1.1 x.2 with
  | none => s
  | some q => if q ∈ s.1 then s else (s.1 ++ [q], s.2 ++ [(q, x.1.2 ++ [x.2])])
def wrk (l : List (Pr × List Nat)) : List ((Pr × List Nat) × Nat) := l.flatMap fun x => (List.range 4).map fun k => (x, k)
def expd (gs : List (List ShV)) (l : List (Pr × List Nat)) (seen : List Pr) : List Pr × List (Pr × List Nat) := (wrk l).foldl (fun s x => exK gs x s) (seen, [])
def dif1 (gs : List (List ShV)) (l : List (Pr × List Nat)) : Option (List Nat) := (wrk l).findSome? fun x => if difB gs x.1.1 x.2 = true then some (x.1.2 ++ [x.2]) else none
/-- So many rounds. -/
def bfs (gs : List (List ShV)) : Nat → List (Pr × List Nat) → List Pr → Option (List Nat)
  | 0, _, _ => none
  | f + 1, l, seen => if l = [] then none else match dif1 gs l with
    | some w => some w
    | none => bfs gs f (expd gs l seen).2 (expd gs l seen).1
theorem fold_all {gs : List (List ShV)} (P : Pr → Prop) : ∀ (W : List ((Pr × List Nat) × Nat)) (s : List Pr × List (Pr × List Nat)), (∀ x ∈ W, ∀ q, onwO gs x.1.1 x.2 = some q → P q) →
    ∃ N, (W.foldl (fun s x => exK gs x s) s).2 = s.2 ++ N ∧ (W.foldl (fun s x => exK gs x s) s).1 = s.1 ++ N.map (fun y => y.1) ∧ ∀ y ∈ N, P y.1
  | [], s, _ => ⟨[], by simp, by simp, fun y hy => by cases hy⟩
  | x :: W, s, h => by
    rw [List.foldl_cons]
    obtain ⟨N, h1, h2, h3⟩ := fold_all P W (exK gs x s) (fun z hz => h z (List.mem_cons_of_mem _ hz))
    have hx := h x (List.mem_cons_self ..)
    unfold exK at h1 h2 ⊢
    cases ho : onwO gs x.1.1 x.2 with
    | none =>
      rw [ho] at h1 h2
      exact ⟨N, h1, h2, h3⟩
    | some q =>
      rw [ho] at h1 h2
      dsimp only at h1 h2 ⊢
      by_cases hq : q ∈ s.1
      · rw [if_pos hq] at h1 h2 ⊢
        exact ⟨N, h1, h2, h3⟩
      · rw [if_neg hq] at h1 h2 ⊢
        refine ⟨(q, x.1.2 ++ [x.2]) :: N, by rw [h1]; simp, by rw [h2]; simp, fun y hy => ?_⟩
        rcases List.mem_cons.1 hy with rfl | hy
        · exact hx q ho
        · exact h3 y hy
theorem wrk_app (a b : List (Pr × List Nat)) : wrk (a ++ b) = wrk a ++ wrk b := by unfold wrk; rw [List.flatMap_append]
theorem wrk_mem {l : List (Pr × List Nat)} {x : (Pr × List Nat) × Nat} : x ∈ wrk l ↔ x.1 ∈ l ∧ x.2 < 4 := by
  unfold wrk
  rw [List.mem_flatMap]
  constructor
  · rintro ⟨y, hy, hx⟩
    obtain ⟨k, hk, rfl⟩ := List.mem_map.1 hx
    exact ⟨hy, List.mem_range.1 hk⟩
  · rintro ⟨h1, h2⟩
    exact ⟨x.1, h1, List.mem_map.2 ⟨x.2, List.mem_range.2 h2, rfl⟩⟩
theorem find_split {P : Nat → Bool} {k : Nat} (h : (List.range 4).find? P = some k) : ∃ a b, List.range 4 = a ++ k :: b ∧ P k = true ∧ ∀ j ∈ a, P j = false := by
  obtain ⟨h1, a, b, h2, h3⟩ := List.find?_eq_some_iff_append.1 h
  exact ⟨a, b, h2, h1, fun j hj => by simpa using h3 j hj⟩
/-- The search finds the program's way. -/
theorem bfs_some {gs : List (List ShV)} {D : Pr → Prop} {m : Pr → Option Nat} (ok : AprtOk gs D m) (hD : ∀ p k q, D p → onwO gs p k = some q → D q) :
    ∀ (n f : Nat) (L1 L2 : List (Pr × List Nat)) (p : Pr) (u : List Nat) (seen : List Pr), n < f → 1 ≤ n → m p = some n → (∀ x ∈ L1, D x.1 ∧ ∀ e, m x.1 = some e → n < e) → D p → (∀ x ∈ L2, D x.1 ∧ ∀ e, m x.1 = some e → n ≤ e) → (∀ q ∈ seen, ∀ e, m q = some e → n ≤ e) →
      bfs gs f (L1 ++ (p, u) :: L2) seen = some (u ++ toldW gs m n p) := by
  intro n
  induction n with
  | zero => intro f L1 L2 p u seen _ h; omega
  | succ n ih =>
    intro f L1 L2 p u seen hf _ hm h1 hp h2 h3
    obtain ⟨f, rfl⟩ : ∃ f', f = f' + 1 := ⟨f - 1, by omega⟩
    have hne : L1 ++ (p, u) :: L2 ≠ [] := by simp
    have hall : ∀ x ∈ L1 ++ (p, u) :: L2, D x.1 ∧ ∀ e, m x.1 = some e → n + 1 ≤ e := by
      intro x hx
      rcases List.mem_append.1 hx with hx | hx
      · exact ⟨(h1 x hx).1, fun e he => Nat.le_of_lt ((h1 x hx).2 e he)⟩
      · rcases List.mem_cons.1 hx with rfl | hx
        · exact ⟨hp, fun e he => by rw [hm] at he; injection he with he; omega⟩
        · exact h2 x hx
    obtain ⟨k, hfk⟩ : ∃ k, (List.range 4).find? (fun k => tlB gs m p k (n + 1)) = some k := by
      obtain ⟨_, k, hk, ht⟩ := ok.d1 p _ hm
      cases hf9 : (List.range 4).find? (fun k => tlB gs m p k (n + 1)) with
      | some k => exact ⟨k, rfl⟩
      | none =>
        rw [List.find?_eq_none] at hf9
        exact absurd ht (hf9 k (List.mem_range.2 hk))
    have htw : toldW gs m (n + 1) p = k :: toldW gs m n ((onwO gs p k).getD p) := by
      show (match (List.range 4).find? (fun k => tlB gs m p k (n + 1)) with | none => [] | some k => k :: toldW gs m n ((onwO gs p k).getD p)) = _
      rw [hfk]
    obtain ⟨ka, kb, hr, hkt, hka⟩ := find_split hfk
    have hwr : wrk (L1 ++ (p, u) :: L2) = wrk L1 ++ (ka.map (fun j => ((p, u), j)) ++ ((p, u), k) :: (kb.map (fun j => ((p, u), j)) ++ wrk L2)) := by
      rw [wrk_app]
      congr 1
      show ((List.range 4).map fun k => ((p, u), k)) ++ wrk L2 = _
      rw [hr]
      simp
    rw [htw]
    show (if L1 ++ (p, u) :: L2 = [] then none else match dif1 gs (L1 ++ (p, u) :: L2) with | some w => some w | none => bfs gs f (expd gs (L1 ++ (p, u) :: L2) seen).2 (expd gs (L1 ++ (p, u) :: L2) seen).1) = _
    rw [if_neg hne]
    have hk4 : k < 4 := by
      have : k ∈ List.range 4 := by rw [hr]; simp
      exact List.mem_range.1 this
    rcases Nat.eq_zero_or_pos n with rfl | hn
    · -- one field tells them apart
      have hd : dif1 gs (L1 ++ (p, u) :: L2) = some (u ++ [k]) := by
        unfold dif1
        rw [hwr, List.findSome?_append]
        have e1 : (wrk L1).findSome? (fun x => if difB gs x.1.1 x.2 = true then some (x.1.2 ++ [x.2]) else none) = none := by
          rw [List.findSome?_eq_none_iff]
          intro x hx
          obtain ⟨hx1, hx2⟩ := wrk_mem.1 hx
          rw [if_neg]
          intro hdf
          have := (h1 _ hx1).2 1 (ok.d2 _ _ (h1 _ hx1).1 hx2 hdf)
          omega
        have e2 : (ka.map (fun j => ((p, u), j))).findSome? (fun x => if difB gs x.1.1 x.2 = true then some (x.1.2 ++ [x.2]) else none) = none := by
          rw [List.findSome?_eq_none_iff]
          intro x hx
          obtain ⟨j, hj, rfl⟩ := List.mem_map.1 hx
          have h5 := hka j hj
          unfold tlB at h5
          rw [if_pos rfl] at h5
          rw [if_neg (by rw [h5]; simp)]
        rw [e1, Option.none_or, List.findSome?_append, e2, Option.none_or, List.findSome?_cons]
        have h5 := hkt
        unfold tlB at h5
        rw [if_pos rfl] at h5
        rw [if_pos h5]
      rw [hd]
      rfl
    · have hd : dif1 gs (L1 ++ (p, u) :: L2) = none := by
        unfold dif1
        rw [List.findSome?_eq_none_iff]
        intro x hx
        obtain ⟨hx1, hx2⟩ := wrk_mem.1 hx
        rw [if_neg]
        intro hdf
        have := (hall _ hx1).2 1 (ok.d2 _ _ (hall _ hx1).1 hx2 hdf)
        omega
      rw [hd]
      dsimp only
      -- the next
      have hq : ∃ q, onwO gs p k = some q ∧ m q = some n := by
        have h5 := hkt
        unfold tlB at h5
        rw [if_neg (by omega)] at h5
        cases ho : onwO gs p k with
        | none => rw [ho] at h5; cases h5
        | some q => rw [ho] at h5; exact ⟨q, rfl, by simpa using h5⟩
      obtain ⟨q, ho, hmq⟩ := hq
      have far1 : ∀ x ∈ wrk L1 ++ ka.map (fun j => ((p, u), j)), ∀ q', onwO gs x.1.1 x.2 = some q' → (D q' ∧ ∀ e, m q' = some e → n < e) := by
        intro x hx q' hq'
        rcases List.mem_append.1 hx with hx | hx
        · obtain ⟨hx1, hx2⟩ := wrk_mem.1 hx
          refine ⟨hD _ _ _ (h1 _ hx1).1 hq', fun e he => ?_⟩
          obtain ⟨d, hd1, hd2⟩ := ok.d3 _ _ _ _ (h1 _ hx1).1 hx2 hq' he
          have := (h1 _ hx1).2 d hd2
          omega
        · obtain ⟨j, hj, rfl⟩ := List.mem_map.1 hx
          have hj4 : j < 4 := by
            have : j ∈ List.range 4 := by rw [hr]; simp [hj]
            exact List.mem_range.1 this
          refine ⟨hD _ _ _ hp hq', fun e he => ?_⟩
          obtain ⟨d, hd1, hd2⟩ := ok.d3 _ _ _ _ hp hj4 hq' he
          rw [hm] at hd2
          injection hd2 with hd2
          have h5 := hka j hj
          unfold tlB at h5
          rw [if_neg (by omega), hq'] at h5
          dsimp only at h5
          rw [he] at h5
          have : ¬ e = n := by simpa using h5
          omega
      have far2 : ∀ x ∈ kb.map (fun j => ((p, u), j)) ++ wrk L2, ∀ q', onwO gs x.1.1 x.2 = some q' → (D q' ∧ ∀ e, m q' = some e → n ≤ e) := by
        intro x hx q' hq'
        have hx' : x.1 ∈ L1 ++ (p, u) :: L2 ∧ x.2 < 4 := by
          rw [← wrk_mem, hwr]
          simp only [List.mem_append, List.mem_cons] at hx ⊢
          rcases hx with hx | hx
          · exact .inr (.inr (.inr (.inl hx)))
          · exact .inr (.inr (.inr (.inr hx)))
        have h5 := hall _ hx'.1
        refine ⟨hD _ _ _ h5.1 hq', fun e he => ?_⟩
        obtain ⟨d, hd1, hd2⟩ := ok.d3 _ _ _ _ h5.1 hx'.2 hq' he
        have := h5.2 d hd2
        omega
      obtain ⟨N1, n1, n2, n3⟩ := fold_all (fun q' => D q' ∧ ∀ e, m q' = some e → n < e) (wrk L1 ++ ka.map (fun j => ((p, u), j))) (seen, []) far1
      have hns : q ∉ (seen ++ N1.map fun y => y.1) := by
        intro hin
        rcases List.mem_append.1 hin with hin | hin
        · have := h3 q hin n hmq; omega
        · obtain ⟨y, hy, rfl⟩ := List.mem_map.1 hin
          have := (n3 y hy).2 n hmq; omega
      have hmid : exK gs ((p, u), k) (seen ++ N1.map (fun y => y.1), [] ++ N1) = (seen ++ N1.map (fun y => y.1) ++ [q], [] ++ N1 ++ [(q, u ++ [k])]) := by
        unfold exK
        dsimp only
        rw [ho]
        dsimp only
        rw [if_neg hns]
      obtain ⟨N2, g1, g2, g3⟩ := fold_all (fun q' => D q' ∧ ∀ e, m q' = some e → n ≤ e) (kb.map (fun j => ((p, u), j)) ++ wrk L2) (seen ++ N1.map (fun y => y.1) ++ [q], [] ++ N1 ++ [(q, u ++ [k])]) far2
      have he : expd gs (L1 ++ (p, u) :: L2) seen = ((seen ++ N1.map (fun y => y.1) ++ [q]) ++ N2.map (fun y => y.1), N1 ++ (q, u ++ [k]) :: N2) := by
        unfold expd
        rw [hwr, ← List.append_assoc, List.foldl_append, List.foldl_cons]
        have e1 : (wrk L1 ++ ka.map (fun j => ((p, u), j))).foldl (fun s x => exK gs x s) (seen, []) = (seen ++ N1.map (fun y => y.1), [] ++ N1) := Prod.ext n2 n1
        rw [e1, hmid]
        refine Prod.ext g2 ?_
        rw [g1]
        simp
      rw [he]
      dsimp only
      rw [ho, Option.getD_some, ih f N1 N2 q (u ++ [k]) _ (by omega) hn hmq (fun x hx => n3 x hx) (hD _ _ _ hp ho) (fun x hx => g3 x hx) (fun q' hq' e he' => ?_)]
      · simp
      · rcases List.mem_append.1 hq' with hq' | hq'
        · rcases List.mem_append.1 hq' with hq' | hq'
          · rcases List.mem_append.1 hq' with hq' | hq'
            · have := h3 q' hq' e he'; omega
            · obtain ⟨y, hy, rfl⟩ := List.mem_map.1 hq'
              have := (n3 y hy).2 e he'; omega
          · rw [List.mem_singleton.1 hq', hmq] at he'
            injection he' with he'
            omega
        · obtain ⟨y, hy, rfl⟩ := List.mem_map.1 hq'
          exact (g3 y hy).2 e he'
/-- What nothing tells apart, the search doesn't tell apart either. -/
theorem bfs_none {gs : List (List ShV)} {D : Pr → Prop} {m : Pr → Option Nat} (ok : AprtOk gs D m) (hD : ∀ p k q, D p → onwO gs p k = some q → D q) :
    ∀ (f : Nat) (L : List (Pr × List Nat)) (seen : List Pr), (∀ x ∈ L, D x.1 ∧ m x.1 = none) → bfs gs f L seen = none
  | 0, _, _, _ => rfl
  | f + 1, L, seen, h => by
    show (if L = [] then none else match dif1 gs L with | some w => some w | none => bfs gs f (expd gs L seen).2 (expd gs L seen).1) = _
    split
    · rfl
    · have hd : dif1 gs L = none := by
        unfold dif1
        rw [List.findSome?_eq_none_iff]
        intro x hx
        obtain ⟨hx1, hx2⟩ := wrk_mem.1 hx
        rw [if_neg]
        intro hdf
        have := ok.d2 _ _ (h _ hx1).1 hx2 hdf
        rw [(h _ hx1).2] at this
        cases this
      rw [hd]
      dsimp only
      obtain ⟨N, n1, n2, n3⟩ := fold_all (gs := gs) (fun q' => D q' ∧ m q' = none) (wrk L) (seen, []) (fun x hx q' hq' => by
        obtain ⟨hx1, hx2⟩ := wrk_mem.1 hx
        refine ⟨hD _ _ _ (h _ hx1).1 hq', ?_⟩
        cases hm : m q' with
        | none => rfl
        | some e =>
          obtain ⟨d, _, hd2⟩ := ok.d3 _ _ _ _ (h _ hx1).1 hx2 hq' hm
          rw [(h _ hx1).2] at hd2
          cases hd2)
      refine bfs_none ok hD f _ _ fun x hx => ?_
      have hx2 : x ∈ [] ++ N := by rw [← n1]; exact hx
      exact n3 x (by simpa using hx2)
end Go.Proofs.Ytikaaekhghcodaa
