/- Visits: a walk as a machine with a stack of what is left; the plain part. Visits: words with marks, some of whose fields keep the way back; the plain part. Visits: climber.enter, back, way. -/
import Derived.Test.YtpbafmdebflbpaaGMarkTells15
import Derived.Test.YtpbafmdebflbpaaGMarkTells17
import Derived.Deep.Cut
import Derived.Deep.RegionLaw
set_option linter.unusedSimpArgs false
set_option linter.unusedVariables false
namespace Go.Proofs.Ytpbafmdebflbpaa

/-- What is left is gone through: first what each leads to. -/
def wk (gs : List (List Val)) : Nat → List (List Val) → List Int → List Int
  | 0, _, l => l
  | _ + 1, [], l => l
  | f + 1, [] :: K, l => wk gs f K l
  | f + 1, (v :: vs) :: K, l => if v.1 = true ∧ v.2 ∉ l then wk gs f (fieldsI gs v.2 :: vs :: K) (l ++ [v.2]) else wk gs f (vs :: K) l
/-- How much is left. -/
def wkS (K : List (List Val)) : Nat := (K.map fun vs => 2 * vs.length + 1).sum
def wkU (gs : List (List Val)) (l : List Int) : Nat := (((List.range gs.length).filter fun (i : Nat) => decide ((i : Int) ∉ l)).map fun (i : Nat) => 2 * (fieldsI gs (i : Int)).length + 3).sum
def wkM (gs : List (List Val)) (K : List (List Val)) (l : List Int) : Nat := wkU gs l + wkS K
theorem wkS_cons (vs : List Val) (K : List (List Val)) : wkS (vs :: K) = 2 * vs.length + 1 + wkS K := by simp [wkS]
theorem filt_sum (f : Nat → Nat) (p q : Nat → Bool) (x : Nat) (hx : p x = true) (hq : ∀ i, q i = (p i && decide (i ≠ x))) : ∀ l : List Nat, l.Nodup → x ∈ l → ((l.filter p).map f).sum = ((l.filter q).map f).sum + f x := by
  intro l
  induction l with
  | nil => intro _ h; simp at h
  | cons a l ih =>
    intro hn hm
    obtain ⟨h1, h2⟩ := List.nodup_cons.1 hn
    by_cases e : a = x
    · subst e
      have hqa : q a = false := by rw [hq]; simp
      rw [List.filter_cons_of_pos hx, List.filter_cons_of_neg (by rw [hqa]; simp)]
      have : l.filter p = l.filter q := by
        refine List.filter_congr fun b hb => ?_
        rw [hq]
        have : b ≠ a := by rintro rfl; exact h1 hb
        simp [this]
      rw [this]
      simp only [List.map_cons, List.sum_cons]
      omega
    · have hxl : x ∈ l := by
        rcases List.mem_cons.1 hm with h | h
        · exact absurd h.symm e
        · exact h
      have ih := ih h2 hxl
      have hqa : q a = p a := by rw [hq]; simp [e]
      cases hp : p a with
      | true =>
        rw [List.filter_cons_of_pos hp, List.filter_cons_of_pos (by rw [hqa]; exact hp)]
        simp only [List.map_cons, List.sum_cons]
        omega
      | false =>
        rw [List.filter_cons_of_neg (by rw [hp]; simp), List.filter_cons_of_neg (by rw [hqa, hp]; simp)]
        exact ih
theorem wkU_add {gs : List (List Val)} {l : List Int} {x : Int} (h0 : 0 ≤ x) (h1 : x < (gs.length : Int)) (hx : x ∉ l) : wkU gs l = wkU gs (l ++ [x]) + (2 * (fieldsI gs x).length + 3) := by
  unfold wkU
  have key := filt_sum (fun (i : Nat) => 2 * (fieldsI gs (i : Int)).length + 3) (fun (i : Nat) => decide ((i : Int) ∉ l)) (fun (i : Nat) => decide ((i : Int) ∉ l ++ [x])) x.toNat (by
    rw [decide_eq_true_eq, show ((x.toNat : Nat) : Int) = x from by omega]; exact hx) (fun i => by
    rw [← Bool.decide_and, decide_eq_decide]
    simp only [List.mem_append, List.mem_singleton, not_or]
    constructor
    · rintro ⟨a, b⟩; exact ⟨a, by omega⟩
    · rintro ⟨a, b⟩; exact ⟨a, by omega⟩) (List.range gs.length) List.nodup_range (List.mem_range.2 (by omega))
  rw [key, show ((x.toNat : Nat) : Int) = x from by omega]
/-- All values that are left lead to objects. -/
def KOk (n : Nat) (K : List (List Val)) : Prop := ∀ vs ∈ K, ValsOk n vs
theorem KOk.head {n : Nat} {K : List (List Val)} {v : Val} {vs : List Val} (h : KOk n ((v :: vs) :: K)) (h1 : v.1 = true) : 0 ≤ v.2 ∧ v.2 < (n : Int) := h _ List.mem_cons_self v List.mem_cons_self h1
theorem KOk.tail {n : Nat} {K : List (List Val)} {v : Val} {vs : List Val} (h : KOk n ((v :: vs) :: K)) : ValsOk n vs := fun u hu => h _ List.mem_cons_self u (List.mem_cons_of_mem _ hu)
theorem KOk.push {gs : List (List Val)} (hg : ∀ fs ∈ gs, ValsOk gs.length fs) {K : List (List Val)} {v : Val} {vs : List Val} (h : KOk gs.length ((v :: vs) :: K)) : KOk gs.length (fieldsI gs v.2 :: vs :: K) := by
  intro us hu
  rcases List.mem_cons.1 hu with rfl | hu
  · exact fieldsI_ok hg _
  · rcases List.mem_cons.1 hu with rfl | hu
    · exact h.tail
    · exact h us (by simp [hu])
theorem KOk.skip {n : Nat} {K : List (List Val)} {v : Val} {vs : List Val} (h : KOk n ((v :: vs) :: K)) : KOk n (vs :: K) := by
  intro us hu
  rcases List.mem_cons.1 hu with rfl | hu
  · exact h.tail
  · exact h us (by simp [hu])
theorem KOk.pop {n : Nat} {K : List (List Val)} {vs : List Val} (h : KOk n (vs :: K)) : KOk n K := fun us hu => h us (by simp [hu])
/-- With enough turns it does not matter how many. -/
theorem wk_more {gs : List (List Val)} (hg : ∀ fs ∈ gs, ValsOk gs.length fs) (f : Nat) : ∀ (K : List (List Val)) (l : List Int), KOk gs.length K → wkM gs K l ≤ f → wk gs (f + 1) K l = wk gs f K l := by
  induction f with
  | zero =>
    intro K l _ h
    cases K with
    | nil => rfl
    | cons vs K => unfold wkM at h; rw [wkS_cons] at h; omega
  | succ f ih =>
    intro K l hK h
    cases K with
    | nil => rfl
    | cons vs K =>
      cases vs with
      | nil =>
        show wk gs (f + 1) K l = wk gs f K l
        exact ih K l hK.pop (by unfold wkM at h ⊢; rw [wkS_cons] at h; simp at h; omega)
      | cons v vs =>
        rw [wk]
        conv => rhs; rw [wk]
        split
        · rename_i hc
          obtain ⟨h0, h1⟩ := hK.head hc.1
          refine ih _ _ (hK.push hg) ?_
          unfold wkM at h ⊢
          have := wkU_add (gs := gs) h0 h1 hc.2
          rw [wkS_cons] at h
          rw [wkS_cons, wkS_cons]
          simp only [List.length_cons] at h
          omega
        · refine ih _ _ hK.skip ?_
          unfold wkM at h ⊢
          rw [wkS_cons] at h ⊢
          simp only [List.length_cons] at h
          omega
theorem wk_enough {gs : List (List Val)} (hg : ∀ fs ∈ gs, ValsOk gs.length fs) {K : List (List Val)} {l : List Int} (hK : KOk gs.length K) {f : Nat} (h : wkM gs K l ≤ f) : wk gs f K l = wk gs (wkM gs K l) K l := by
  obtain ⟨d, rfl⟩ : ∃ d, f = wkM gs K l + d := ⟨f - wkM gs K l, by omega⟩
  clear h
  induction d with
  | zero => rfl
  | succ d ih => rw [← Nat.add_assoc, wk_more hg _ K l hK (by omega), ih]
/-- The walk. -/
def walkN (gs : List (List Val)) (K : List (List Val)) (l : List Int) : List Int := wk gs (wkM gs K l) K l
theorem walkN_nil (gs : List (List Val)) (l : List Int) : walkN gs [] l = l := by
  unfold walkN
  cases wkM gs [] l <;> rfl
section
variable {gs : List (List Val)} {K : List (List Val)} {l : List Int} {v : Val} {vs : List Val}
theorem walkN_pop : walkN gs ([] :: K) l = walkN gs K l := by
  have e : wkM gs ([] :: K) l = wkM gs K l + 1 := by unfold wkM; rw [wkS_cons]; simp; omega
  unfold walkN
  rw [e]
  rfl
theorem walkN_skip (hg : ∀ fs ∈ gs, ValsOk gs.length fs) (hK : KOk gs.length ((v :: vs) :: K)) (h : ¬ (v.1 = true ∧ v.2 ∉ l)) : walkN gs ((v :: vs) :: K) l = walkN gs (vs :: K) l := by
  have e : wkM gs ((v :: vs) :: K) l = wkM gs (vs :: K) l + 1 + 1 := by unfold wkM; rw [wkS_cons, wkS_cons]; simp only [List.length_cons]; omega
  unfold walkN
  rw [e, wk, if_neg h]
  exact wk_enough hg hK.skip (by omega)
theorem walkN_push (hg : ∀ fs ∈ gs, ValsOk gs.length fs) (hK : KOk gs.length ((v :: vs) :: K)) (h : v.1 = true ∧ v.2 ∉ l) : walkN gs ((v :: vs) :: K) l = walkN gs (fieldsI gs v.2 :: vs :: K) (l ++ [v.2]) := by
  obtain ⟨h0, h1⟩ := hK.head h.1
  have e : wkM gs ((v :: vs) :: K) l = wkM gs (fieldsI gs v.2 :: vs :: K) (l ++ [v.2]) + 3 + 1 := by
    unfold wkM
    have := wkU_add (gs := gs) h0 h1 h.2
    rw [wkS_cons, wkS_cons, wkS_cons]
    simp only [List.length_cons]
    omega
  unfold walkN
  rw [e, wk, if_pos h]
  exact wk_enough hg (hK.push hg) (by omega)
end
/-- The walk falls into the walk of what comes first, and of what is behind. -/
theorem walkN_app {gs : List (List Val)} (hg : ∀ fs ∈ gs, ValsOk gs.length fs) (f : Nat) : ∀ (K J : List (List Val)) (l : List Int), wkM gs K l ≤ f → KOk gs.length (K ++ J) → walkN gs (K ++ J) l = walkN gs J (walkN gs K l) := by
  induction f with
  | zero =>
    intro K J l h _
    cases K with
    | nil => rw [walkN_nil]; rfl
    | cons vs K => unfold wkM at h; rw [wkS_cons] at h; omega
  | succ f ih =>
    intro K J l h hKJ
    cases K with
    | nil => rw [walkN_nil]; rfl
    | cons vs K =>
      rw [List.cons_append] at hKJ
      have hK : KOk gs.length (vs :: K) := fun us hu => hKJ us (by simp only [List.mem_cons, List.mem_append] at hu ⊢; rcases hu with h | h <;> simp [h])
      cases vs with
      | nil =>
        rw [List.cons_append, walkN_pop, walkN_pop]
        exact ih K J l (by unfold wkM at h ⊢; rw [wkS_cons] at h; simp at h; omega) hKJ.pop
      | cons v vs =>
        by_cases hc : v.1 = true ∧ v.2 ∉ l
        · rw [List.cons_append, walkN_push hg hKJ hc, walkN_push hg hK hc]
          refine ih (fieldsI gs v.2 :: vs :: K) J _ ?_ (KOk.push hg hKJ)
          obtain ⟨h0, h1⟩ := hK.head hc.1
          unfold wkM at h ⊢
          have := wkU_add (gs := gs) h0 h1 hc.2
          rw [wkS_cons] at h
          rw [wkS_cons, wkS_cons]
          simp only [List.length_cons] at h
          omega
        · rw [List.cons_append, walkN_skip hg hKJ hc, walkN_skip hg hK hc]
          refine ih (vs :: K) J l ?_ hKJ.skip
          unfold wkM at h ⊢
          rw [wkS_cons] at h ⊢
          simp only [List.length_cons] at h
          omega
theorem walkN_pre {gs : List (List Val)} (hg : ∀ fs ∈ gs, ValsOk gs.length fs) (f : Nat) : ∀ (K : List (List Val)) (l : List Int), wkM gs K l ≤ f → KOk gs.length K → OrdOk gs.length l → l <+: walkN gs K l ∧ OrdOk gs.length (walkN gs K l) := by
  induction f with
  | zero =>
    intro K l h _ hO
    cases K with
    | nil => rw [walkN_nil]; exact ⟨List.prefix_refl _, hO⟩
    | cons vs K => unfold wkM at h; rw [wkS_cons] at h; omega
  | succ f ih =>
    intro K l h hK hO
    cases K with
    | nil => rw [walkN_nil]; exact ⟨List.prefix_refl _, hO⟩
    | cons vs K =>
      cases vs with
      | nil =>
        rw [walkN_pop]
        exact ih K l (by unfold wkM at h ⊢; rw [wkS_cons] at h; simp at h; omega) hK.pop hO
      | cons v vs =>
        by_cases hc : v.1 = true ∧ v.2 ∉ l
        · rw [walkN_push hg hK hc]
          obtain ⟨h0, h1⟩ := hK.head hc.1
          have hO2 : OrdOk gs.length (l ++ [v.2]) := by
            have := hO.seen1 (v := v) (fun _ => ⟨h0, h1⟩)
            unfold seen1 at this
            rw [if_pos hc] at this
            exact this
          obtain ⟨p1, p2⟩ := ih (fieldsI gs v.2 :: vs :: K) _ (by
            unfold wkM at h ⊢
            have := wkU_add (gs := gs) h0 h1 hc.2
            rw [wkS_cons] at h
            rw [wkS_cons, wkS_cons]
            simp only [List.length_cons] at h
            omega) (hK.push hg) hO2
          exact ⟨(List.prefix_append _ _).trans p1, p2⟩
        · rw [walkN_skip hg hK hc]
          refine ih (vs :: K) l ?_ hK.skip hO
          unfold wkM at h ⊢
          rw [wkS_cons] at h ⊢
          simp only [List.length_cons] at h
          omega
end Go.Proofs.Ytpbafmdebflbpaa

namespace Go.Proofs.Ytpbafmdebflbpaa
open Go.RowKit Go.Maps

/-- The words of an arena with given marks and fields. -/
def vB (ws : List Int) (pre : List (Nat × Nat)) (S : Nat → Bool) (g : Nat → List Int) (i : Nat) : List Int := headW (lenN pre i) (S i) (ageN ws pre i) :: g i
def mkG (ws : List Int) (pre : List (Nat × Nat)) (S : Nat → Bool) (g : Nat → List Int) : List Int := (List.range pre.length).flatMap (vB ws pre S g)
def GLen (pre : List (Nat × Nat)) (g : Nat → List Int) : Prop := ∀ i, i < pre.length → (g i).length = lenN pre i
def setG (g : Nat → List Int) (i j : Nat) (x : Int) : Nat → List Int := fun k => if k = i then (g i).set j x else g k
theorem mkW_mkG (ws : List Int) (pre : List (Nat × Nat)) (S : Nat → Bool) : mkW ws pre S = mkG ws pre S (fldN ws pre) := rfl
theorem setG_len {pre : List (Nat × Nat)} {g : Nat → List Int} (h : GLen pre g) (i j : Nat) (x : Int) : GLen pre (setG g i j x) := by
  intro k hk
  unfold setG
  split
  · rename_i e; subst e; rw [List.length_set]; exact h _ hk
  · exact h k hk
section
variable {nW : Nat} {ws : List Int} {g : Nat → List Int} {i j : Nat}
theorem g_before (h : ArnOk nW ws) (hg : GLen (parse nW ws 0).1 g) (hi : i < (parse nW ws 0).1.length) (T : Nat → Bool) : ((List.range i).flatMap (vB ws (parse nW ws 0).1 T g)).length = plcN (parse nW ws 0).1 i := by
  rw [← h.before hi T, List.length_flatMap, List.length_flatMap]
  congr 1
  refine List.map_congr_left fun k hk => ?_
  have hk' : k < (parse nW ws 0).1.length := by have := List.mem_range.1 hk; omega
  unfold vB mkB
  rw [List.length_cons, List.length_cons, hg k hk', h.fld hk']
theorem g_split (S : Nat → Bool) (pre : List (Nat × Nat)) (hi : i < pre.length) : mkG ws pre S g = (List.range i).flatMap (vB ws pre S g) ++ headW (lenN pre i) (S i) (ageN ws pre i) :: (g i ++ (List.range' (i + 1) (pre.length - i - 1)).flatMap (vB ws pre S g)) := by
  unfold mkG
  rw [range_split _ i hi, List.flatMap_append, List.flatMap_cons]
  rfl
theorem g_head (h : ArnOk nW ws) (hg : GLen (parse nW ws 0).1 g) (hi : i < (parse nW ws 0).1.length) (S : Nat → Bool) : (mkG ws (parse nW ws 0).1 S g)[plcN (parse nW ws 0).1 i]? = some (headW (lenN (parse nW ws 0).1 i) (S i) (ageN ws (parse nW ws 0).1 i)) := by
  rw [g_split S _ hi, ← g_before h hg hi S]
  simp
theorem g_field (h : ArnOk nW ws) (hg : GLen (parse nW ws 0).1 g) (hi : i < (parse nW ws 0).1.length) (hj : j < lenN (parse nW ws 0).1 i) (S : Nat → Bool) : (mkG ws (parse nW ws 0).1 S g)[plcN (parse nW ws 0).1 i + 1 + j]? = (g i)[j]? := by
  have hf := hg i hi
  rw [g_split S _ hi, List.getElem?_append_right (by rw [g_before h hg hi S]; omega), g_before h hg hi S, show plcN (parse nW ws 0).1 i + 1 + j - plcN (parse nW ws 0).1 i = j + 1 from by omega, List.getElem?_cons_succ, List.getElem?_append_left (by omega)]
theorem g_congr {S T : Nat → Bool} {g g' : Nat → List Int} {pre : List (Nat × Nat)} (hS : ∀ i, i < pre.length → S i = T i) (hg : ∀ i, i < pre.length → g i = g' i) : mkG ws pre S g = mkG ws pre T g' := by
  unfold mkG
  refine flatMap_congr_ fun k hk => ?_
  unfold vB
  rw [hS k (List.mem_range.1 hk), hg k (List.mem_range.1 hk)]
theorem vB_other {pre : List (Nat × Nat)} {S T : Nat → Bool} {g g' : Nat → List Int} {l : List Nat} (h : ∀ k ∈ l, S k = T k ∧ g k = g' k) : l.flatMap (vB ws pre S g) = l.flatMap (vB ws pre T g') :=
  flatMap_congr_ fun k hk => by unfold vB; rw [(h k hk).1, (h k hk).2]
theorem g_setHead (h : ArnOk nW ws) (hg : GLen (parse nW ws 0).1 g) (hi : i < (parse nW ws 0).1.length) (S : Nat → Bool) (b : Bool) : (mkG ws (parse nW ws 0).1 S g).set (plcN (parse nW ws 0).1 i) (headW (lenN (parse nW ws 0).1 i) b (ageN ws (parse nW ws 0).1 i)) = mkG ws (parse nW ws 0).1 (addS S i b) g := by
  rw [g_split S _ hi, g_split (addS S i b) _ hi, ← g_before h hg hi S, set_mid_, addS_self]
  rw [vB_other (l := List.range i) (T := addS S i b) (g' := g) (fun k hk => ⟨by unfold addS; rw [if_neg (by have := List.mem_range.1 hk; omega)], rfl⟩),
    vB_other (l := List.range' (i + 1) ((parse nW ws 0).1.length - i - 1)) (T := addS S i b) (g' := g) (fun k hk => ⟨by unfold addS; rw [if_neg (by have := List.mem_range'.1 hk; omega)], rfl⟩)]
theorem g_setField (h : ArnOk nW ws) (hg : GLen (parse nW ws 0).1 g) (hi : i < (parse nW ws 0).1.length) (hj : j < lenN (parse nW ws 0).1 i) (S : Nat → Bool) (x : Int) : (mkG ws (parse nW ws 0).1 S g).set (plcN (parse nW ws 0).1 i + 1 + j) x = mkG ws (parse nW ws 0).1 S (setG g i j x) := by
  have hf := hg i hi
  rw [g_split S _ hi, g_split (g := setG g i j x) S _ hi]
  have e1 := vB_other (ws := ws) (pre := (parse nW ws 0).1) (l := List.range i) (S := S) (T := S) (g := g) (g' := setG g i j x) (fun k hk => ⟨rfl, by unfold setG; rw [if_neg (by have := List.mem_range.1 hk; omega)]⟩)
  have e2 := vB_other (ws := ws) (pre := (parse nW ws 0).1) (l := List.range' (i + 1) ((parse nW ws 0).1.length - i - 1)) (S := S) (T := S) (g := g) (g' := setG g i j x) (fun k hk => ⟨rfl, by unfold setG; rw [if_neg (by have := List.mem_range'.1 hk; omega)]⟩)
  rw [← e1, ← e2]
  have e3 : setG g i j x i = (g i).set j x := by unfold setG; rw [if_pos rfl]
  rw [e3]
  rw [List.set_append_right _ _ (by rw [g_before h hg hi S]; omega), g_before h hg hi S, show plcN (parse nW ws 0).1 i + 1 + j - plcN (parse nW ws 0).1 i = j + 1 from by omega, List.set_cons_succ, List.set_append_left _ _ (by omega)]
theorem g_length (h : ArnOk nW ws) (hg : GLen (parse nW ws 0).1 g) (S : Nat → Bool) : (mkG ws (parse nW ws 0).1 S g).length = nW := by
  refine Eq.trans ?_ (h.length S)
  unfold mkG mkW
  rw [List.length_flatMap, List.length_flatMap]
  congr 1
  refine List.map_congr_left fun k hk => ?_
  have hk' := List.mem_range.1 hk
  unfold vB mkB
  rw [List.length_cons, List.length_cons, hg k hk', h.fld hk']
theorem fldN_len (h : ArnOk nW ws) : GLen (parse nW ws 0).1 (fldN ws (parse nW ws 0).1) := fun _ hi => h.fld hi
end

/-! ### The way back. -/
/-- What a field keeps: who stands ahead on the way. -/
def backW (pre : List (Nat × Nat)) : List Nat → Int
  | [] => 0
  | q :: _ => 2 * ((plcN pre q : Int) + 1)
def prevW (pre : List (Nat × Nat)) : List Nat → Int
  | [] => -1
  | q :: _ => (plcN pre q : Int)
/-- The fields while one stands behind a way. -/
def gP (ws : List Int) (pre : List (Nat × Nat)) (d : Nat → Nat) : List Nat → Nat → List Int
  | [] => fldN ws pre
  | p :: P => setG (gP ws pre d P) p (d p) (backW pre P)
theorem gP_len {nW : Nat} {ws : List Int} (h : ArnOk nW ws) (d : Nat → Nat) (P : List Nat) : GLen (parse nW ws 0).1 (gP ws (parse nW ws 0).1 d P) := by
  induction P with
  | nil => exact fldN_len h
  | cons p P ih => exact setG_len ih _ _ _
theorem gP_out {ws : List Int} {pre : List (Nat × Nat)} {d : Nat → Nat} {P : List Nat} {i : Nat} (h : i ∉ P) : gP ws pre d P i = fldN ws pre i := by
  induction P with
  | nil => rfl
  | cons p P ih =>
    show setG (gP ws pre d P) p (d p) (backW pre P) i = _
    unfold setG
    rw [if_neg (by rintro rfl; exact h (by simp))]
    exact ih (fun hm => h (by simp [hm]))
theorem gP_congr {ws : List Int} {pre : List (Nat × Nat)} {d d' : Nat → Nat} {P : List Nat} (h : ∀ p ∈ P, d p = d' p) : gP ws pre d P = gP ws pre d' P := by
  induction P with
  | nil => rfl
  | cons p P ih =>
    show setG (gP ws pre d P) p (d p) (backW pre P) = setG (gP ws pre d' P) p (d' p) (backW pre P)
    rw [h p (by simp), ih (fun q hq => h q (by simp [hq]))]
/-- Back up: the field is as it was. -/
theorem gP_up {ws : List Int} {pre : List (Nat × Nat)} {d : Nat → Nat} {P : List Nat} {p : Nat} {x : Int} (hp : p ∉ P) (hx : (fldN ws pre p)[d p]? = some x) : setG (gP ws pre d (p :: P)) p (d p) x = gP ws pre d P := by
  funext k
  unfold setG
  split
  · rename_i e
    subst e
    show (setG (gP ws pre d P) k (d k) (backW pre P) k).set (d k) x = _
    unfold setG
    rw [if_pos rfl, List.set_set, gP_out hp]
    obtain ⟨h1, h2⟩ := List.getElem?_eq_some_iff.1 hx
    rw [← h2]
    exact List.set_getElem_self h1
  · rename_i e
    show setG (gP ws pre d P) p (d p) (backW pre P) k = _
    unfold setG
    rw [if_neg e]
/-- One stands at a behind a way: each on the way leads to the next. -/
def Linked (ws : List Int) (pre : List (Nat × Nat)) (d : Nat → Nat) : List Nat → Nat → Prop
  | [], _ => True
  | p :: P, a => p < pre.length ∧ p ∉ P ∧ d p < lenN pre p ∧ (fldN ws pre p)[d p]? = some (2 * (plcN pre a : Int)) ∧ Linked ws pre d P p
theorem Linked.congr {ws : List Int} {pre : List (Nat × Nat)} {d d' : Nat → Nat} : ∀ {P : List Nat} {a : Nat}, (∀ p ∈ P, d p = d' p) → Linked ws pre d P a → Linked ws pre d' P a
  | [], _, _, _ => trivial
  | p :: P, a, h, ⟨h1, h2, h3, h4, h5⟩ => by
    have e := h p (by simp)
    exact ⟨h1, h2, by rw [← e]; exact h3, by rw [← e]; exact h4, h5.congr (fun q hq => h q (by simp [hq]))⟩
/-- The values that are left at an object, and on the way to it. -/
def valsN (ws : List Int) (pre : List (Nat × Nat)) (i : Nat) : List Val := (fldN ws pre i).map (turnW (ixOf pre))
def restN (ws : List Int) (pre : List (Nat × Nat)) (d : Nat → Nat) (P : List Nat) : List (List Val) := P.map fun p => (valsN ws pre p).drop (d p + 1)
theorem restN_congr {ws : List Int} {pre : List (Nat × Nat)} {d d' : Nat → Nat} {P : List Nat} (h : ∀ p ∈ P, d p = d' p) : restN ws pre d P = restN ws pre d' P := by
  unfold restN
  exact List.map_congr_left fun p hp => by rw [h p hp]
/-- How far objects are gone through, as a map has it. -/
structure DnOk (pre : List (Nat × Nat)) (D : DataW Unit) (d : Nat → Nat) : Prop where
  map : IsMap D
  at_ : ∀ i, i < pre.length → D.atKey (.int .i64 (plcN pre i)) (.lit (.int .i64 0)) = .lit (.int .i64 (d i))
theorem dnOk_nil (pre : List (Nat × Nat)) : DnOk pre (.map []) (fun _ => 0) := ⟨⟨[], rfl⟩, fun i _ => by simp [DataW.atKey]⟩
theorem plcN_inj {nW : Nat} {ws : List Int} {i j : Nat} (hi : i < (parse nW ws 0).1.length) (hj : j < (parse nW ws 0).1.length) (h : plcN (parse nW ws 0).1 i = plcN (parse nW ws 0).1 j) : i = j := by
  have := plc_inj (nW := nW) (ws := ws) (i := (i : Int)) (j := (j : Int)) (by omega) (by omega) (by omega) (by omega) h
  omega
theorem DnOk.put {nW : Nat} {ws : List Int} {D : DataW Unit} {d : Nat → Nat} (h : DnOk (parse nW ws 0).1 D d) {i : Nat} (hi : i < (parse nW ws 0).1.length) (x : Nat) : DnOk (parse nW ws 0).1 (D.put (.int .i64 (plcN (parse nW ws 0).1 i)) (.lit (.int .i64 x))) (fun k => if k = i then x else d k) := by
  have hinj := fun k hk => plcN_inj (nW := nW) (ws := ws) (i := k) (j := i) hk hi
  generalize (parse nW ws 0).1 = pre at *
  refine ⟨?_, fun k hk => ?_⟩
  · obtain ⟨es, rfl⟩ := h.map; exact ⟨_, rfl⟩
  · by_cases e : k = i
    · subst e
      rw [atKey_put_same (k := Lit.int .i64 (plcN pre k : Int)) h.map trivial, if_pos rfl]
    · rw [atKey_put_other (by intro e2; injection e2 with _ e2; exact e (hinj k hk (by omega))), h.at_ k hk, if_neg e]
end Go.Proofs.Ytpbafmdebflbpaa

namespace Go.Proofs.Ytpbafmdebflbpaa
open Go.RowKit Go.Maps

def Sl (l : List Int) : Nat → Bool := fun i => decide ((i : Int) ∈ l)
theorem Sl_snoc (l : List Int) (r : Nat) : addS (Sl l) r true = Sl (l ++ [(r : Int)]) := by
  funext i
  unfold addS Sl
  by_cases e : i = r
  · subst e; simp
  · rw [if_neg e, decide_eq_decide]
    simp only [List.mem_append, List.mem_singleton]
    constructor
    · exact .inl
    · rintro (h | h)
      · exact h
      · omega
def plcs (pre : List (Nat × Nat)) (l : List Int) : List Int := l.map fun i => (plcN pre i.toNat : Int)
theorem plcs_snoc (pre : List (Nat × Nat)) (l : List Int) (r : Nat) : plcs pre (l ++ [(r : Int)]) = plcs pre l ++ [(plcN pre r : Int)] := by simp [plcs]
def ViI (m : Nat) (ws : List Int) (pre : List (Nat × Nat)) (Aw Ao : Option Addr) (nw cw b nn no co : Nat) (D : DataW Unit) (g : Nat → List Int) (l : List Int) : List Item :=
  [rowI 24 1 Aw nw cw (u64s (mkG ws pre (Sl l) g)), rowI 3 1 Ao no co (ints (plcs pre l)), mapJ b nn D, blkI m 145 #[.slice Aw nw cw, .map (some b), .slice Ao no co]]

set_option maxRecDepth 100000 in
set_option maxHeartbeats 8000000 in
theorem enter_any (w : World) (m : Nat) (ws : List Int) (Aw Ao : Option Addr) (nw cw b nn no co : Nat) (D : DataW Unit) (g : Nat → List Int) (l : List Int) (r : Nat) (hs : (allI (ViI m ws (parse nw ws 0).1 Aw Ao nw cw b nn no co D g l)).P w) (hok : ArnOk nw ws) (hg : GLen (parse nw ws 0).1 g) (hr : r < (parse nw ws 0).1.length) (hrl : (r : Int) ∉ l) (hno : no ≤ 1000) :
    Calls Try.prog 112 #[.pointer (some ⟨m, 0, none⟩), .int .i64 (plcN (parse nw ws 0).1 r)] w fun e w' => ∃ Ao' co', (∃ v, e = .returned v) ∧
      Sep (allI (ViI m ws (parse nw ws 0).1 Aw Ao nw cw b nn no co D g l)).fp w w' [allI (ViI m ws (parse nw ws 0).1 Aw Ao' nw cw b nn (no + 1) co' D g (l ++ [(r : Int)]))] := by
  obtain ⟨o1, o2, o3, o4, o5, o6, o7⟩ := hok.obj hr
  have hn := hok.max
  have HHEAD := g_head hok hg hr (Sl l)
  have HSET := g_setHead hok hg hr (Sl l) true
  have hlen := g_length hok hg (Sl l)
  have hsl : Sl l r = false := by unfold Sl; simp [hrl]
  obtain ⟨F, hF⟩ : ∃ F, (allI (ViI m ws (parse nw ws 0).1 Aw Ao nw cw b nn no co D g l)).fp = F := ⟨_, rfl⟩
  have hS := (Sep.start hs).flat
  rw [hF] at hS ⊢
  have MB := (mark_bits (len := (lenN (parse nw ws 0).1 r : Int)) (a := ageN ws (parse nw ws 0).1 r) (by omega) (by omega) o6 o7 (Sl l r)).1
  rw [Sl_snoc] at HSET
  obtain ⟨pre, hpre⟩ : ∃ pre, (parse nw ws 0).1 = pre := ⟨_, rfl⟩
  rw [hpre] at o1 HHEAD HSET hlen hS MB ⊢
  obtain ⟨hw, hhw⟩ : ∃ hw, headW (lenN pre r : Int) (Sl l r) (ageN ws pre r) = hw := ⟨_, rfl⟩
  obtain ⟨hv, hhv⟩ : ∃ hv, headW (lenN pre r : Int) true (ageN ws pre r) = hv := ⟨_, rfl⟩
  rw [hhw] at HHEAD MB
  rw [hhv] at HSET MB
  have hrow : w.ownsRow 0 24 1 (.slice Aw nw cw) nw (u64s (mkG ws pre (Sl l) g)) := hS.get 0 rfl
  obtain ⟨gw, rfl⟩ := own_addr hrow (by omega)
  have HPS := hide (plcs_snoc pre l r)
  obtain ⟨at_, hat⟩ : ∃ at_, plcN pre r = at_ := ⟨_, rfl⟩
  rw [hat] at HHEAD HSET o1 HPS ⊢
  have e0 : w.cell? ⟨gw, at_, none⟩ = some (.int .u64 hw) := by
    rw [hrow.cellAt at_ (by omega), u64s_get, HHEAD]; rfl
  have e1 := hrow.frozenAt at_
  obtain ⟨b1, b2, b3, b4⟩ := hS.rules 3 (g := m) (t := 145) rfl
  have b5 := b1 0
  have CS := hide (fun w' => set_on w' hw hv MB)
  have HS2 := hide (fun nd => by
    have h := (hS.drewN nd).store 0 (g := gw) (e := 24) (size := 1) (n := nw) (c := cw) (xs := u64s (mkG ws pre (Sl l) g)) rfl at_ (.int .u64 hv)
    rw [u64s_set, HSET] at h
    exact h)
  clear hs hok hg hr hrl o2 o3 o4 o5 o6 o7 hn HHEAD HSET hlen hsl hF hS MB hpre hhw hhv hrow hat b1 b2 b4
  go_enter Try.func112, Try.ntmps112
  go_wp2_with fail
  go_cut [] from 4 (fun wc => Sep F w wc [rowI 24 1 (some ⟨gw, 0, none⟩) nw cw (u64s (mkG ws pre (Sl (l ++ [(r : Int)])) g)), rowI 3 1 Ao no co (ints (plcs pre l)), mapJ b nn D, blkI m 145 #[.slice (some ⟨gw, 0, none⟩) nw cw, .map (some b), .slice Ao no co]])
  case first =>
    go_region_law (first
      | (try go_simp
         go_at_call 111
         refine (CS.out _).mono ?_
         rintro e w1 ⟨rfl, rfl⟩))
    all_goals
      go_wp2_with fail
      go_meet
      case rel =>
        first
          | exact HS2.out 0
          | exact (HS2.out 0).drew
          | exact (HS2.out 0).drewN _
          | exact HS2.out _
          | exact (HS2.out _).drew
          | exact (HS2.out _).drewN _
          | trace_state
  case rest =>
    have hS := hcut
    obtain ⟨c1, c2, c3, c4⟩ := hS.rules 3 (g := m) (t := 145) rfl
    have c5 := c1 2
    clear e0 e1 b3 b5 CS HS2 c1 c4 hcut
    have HS := hide hS
    clear hS
    go_wp2_with (first
      | (at_builtin
         refine wpList_app1 (cs := #[.int .i64 at_]) rfl (.tmp 22) (.tmp 24) 40 rfl sInt HS.out 1 (n := no) rfl rfl rfl (by simp) rfl rfl (by omega) ?_
         intro A4 c4 w4 hS4 hC4
         obtain ⟨z1, z2, z3, z4⟩ := hS4.rules 3 (g := m) (t := 145) rfl
         (have z5 := z1 2)
         clear z1))
    go_end0
    have hS5 := (hS4.set_ 3 (g := m) (t := 145) rfl 2 (.slice A4 (no + 1) c4)).fold
    unfold ViI
    rw [HPS.out, ints_snoc_]
    first
      | exact ⟨⟨_, rfl⟩, A4, c4, hS5⟩
      | exact ⟨A4, c4, ⟨_, rfl⟩, hS5⟩

set_option maxHeartbeats 400000 in
theorem back_any (w : World) (x : Int) (h0 : -1 ≤ x) (h1 : x ≤ 1000) :
    Calls Try.prog 113 #[.int .i64 x] w fun e w' => e = .returned (.int .u64 (2 * (x + 1))) ∧ w' = w := by
  have W1 : IntKind.i64.wrap (x + 1) = x + 1 := by simp only [IntKind.wrap_i64]; omega
  have W2 : IntKind.u64.wrap (x + 1) = x + 1 := by simp only [IntKind.wrap_u64]; omega
  have W3 : IntKind.u64.wrap ((x + 1) * 2) = 2 * (x + 1) := by simp only [IntKind.wrap_u64]; omega
  go_enter Try.func113, Try.ntmps113
  go_wp2
  go_ret
  first | exact ⟨rfl, rfl⟩ | exact rfl | exact ⟨ret_int (by omega), rfl⟩ | exact ret_int (by omega)
set_option maxHeartbeats 400000 in
theorem way_any (w : World) (x : Int) (h0 : -1 ≤ x) (h1 : x ≤ 1000) :
    Calls Try.prog 114 #[.int .u64 (2 * (x + 1))] w fun e w' => e = .returned (.int .i64 x) ∧ w' = w := by
  obtain ⟨y, hy⟩ : ∃ y, 2 * (x + 1) = y := ⟨_, rfl⟩
  have hy2 : y / 2 = x + 1 := by omega
  rw [hy]
  have W1 : IntKind.i64.wrap (x + 1) = x + 1 := by simp only [IntKind.wrap_i64]; omega
  have W2 : IntKind.i64.wrap (x + 1 - 1) = x := by simp only [IntKind.wrap_i64]; omega
  go_enter Try.func114, Try.ntmps114
  go_wp2
  go_ret
  first | exact ⟨rfl, rfl⟩ | exact rfl | exact ⟨ret_int (by omega), rfl⟩ | exact ret_int (by omega)
end Go.Proofs.Ytpbafmdebflbpaa
