/- A memory with colours, plain: a script; both tell the same. A memory that counts, plain: what the reference does; objects go alike. -/
import Derived.Test.YtjphckfbbiehdaaSReplicaPlays21
import Derived.Test.YtjphckfbbiehdaaSReplicaPlays16
set_option linter.unusedSimpArgs false
set_option linter.unusedVariables false
namespace Go.Proofs.Ytjphckfbbiehdaa
open Go.RowKit
structure RtOk (q : Nat) (t : RT) : Prop where
  len : t.gone.length = t.σ.objs.length
  ok : CoOk t.a
  inv : CoInv q t.a
  m : MOk t.σ
theorem stepK_len (d : DoV) (σ : MSt) : (stepK d σ).2.objs.length = σ.objs.length + if d.k = 1 then 1 else 0 := by
  unfold stepK
  by_cases h1 : d.k = 1
  · rw [if_pos h1, if_pos h1]; simp
  rw [if_neg h1, if_neg h1]
  split
  · rfl
  split
  · rfl
  split
  · split <;> simp
  split
  · split <;> simp
  split <;> rfl
theorem stepK_m {d : DoV} {σ : MSt} (h : MOk σ) (hw : rWrong d σ = 0) : MOk (stepK d σ).2 := by
  have h1 := (h.step d).1
  rw [stepM_rw, if_neg (by rw [hw]; simp)] at h1
  exact h1
theorem rtStep_len (q : Nat) (d : DoV) {t : RT} (h : t.gone.length = t.σ.objs.length) : (rtStep q d t).2.gone.length = (rtStep q d t).2.σ.objs.length := by
  unfold rtStep
  by_cases h8 : d.k = 8
  · rw [if_pos h8]; split <;> exact h
  rw [if_neg h8]
  by_cases h9 : d.k = 9
  · rw [if_pos h9]
    split
    · exact h
    · dsimp only; rw [goneL_len]; exact h
  rw [if_neg h9]
  split
  · exact h
  split
  · exact h
  dsimp only
  rw [stepK_len]
  split
  · rw [List.length_append, h]; rfl
  · rw [h]; rfl
theorem rtStep_m (q : Nat) (d : DoV) {t : RT} (h : MOk t.σ) : MOk (rtStep q d t).2.σ := by
  unfold rtStep
  by_cases h8 : d.k = 8
  · rw [if_pos h8]; split <;> exact h
  rw [if_neg h8]
  by_cases h9 : d.k = 9
  · rw [if_pos h9]; split <;> exact h
  rw [if_neg h9]
  by_cases hw : rWrong d t.σ ≠ 0
  · rw [if_pos hw]; exact h
  rw [if_neg hw]
  split
  · exact h
  · refine stepK_m h ?_
    rcases Int.decEq (rWrong d t.σ) 0 with h | h
    · exact absurd h hw
    · exact h
theorem RtOk.n {q : Nat} {t : RT} (h : RtOk q t) : t.a.objs.length = t.σ.objs.length := maskL_len _ _ h.len
theorem RtOk.step {q : Nat} (hq : q = 1 ∨ q = 2 ∨ q = 3) {t : RT} (h : RtOk q t) (hn : t.σ.objs.length < 500) (d : DoV) : RtOk q (rtStep q d t).2 ∧ (rtStep q d t).2.σ.objs.length ≤ t.σ.objs.length + 1 ∧ coStep q d t.a = ((rtStep q d t).1, (rtStep q d t).2.a) := by
  have h1 := rt_co q h.len h.ok d
  obtain ⟨o1, o2, o3⟩ := coStep_ok hq h.ok (by rw [h.n]; exact hn) h.inv d
  rw [h1] at o1 o2 o3
  have hl := rtStep_len q d h.len
  refine ⟨⟨hl, o1, o2, rtStep_m q d h.m⟩, ?_, h1⟩
  rw [h.n, show ((rtStep q d t).1, (rtStep q d t).2.a).2.objs = maskL (rtStep q d t).2.σ.objs (rtStep q d t).2.gone from rfl, maskL_len _ _ hl] at o3
  exact o3
end Go.Proofs.Ytjphckfbbiehdaa

namespace Go.Proofs.Ytjphckfbbiehdaa
open Go.RowKit
structure CrA where
  σ : MSt
  gone : List Bool
  gl : List Int
def ptsO (j : Nat) (objs : List (List Val)) : Nat := (objs.map (occ j)).sum
def pts (j : Nat) (σ : MSt) : Nat := occ j σ.regs + ptsO j σ.objs
def CrA.mark (t : CrA) (i : Nat) : CrA := { t with gone := t.gone.set i true, gl := t.gl ++ [(i : Int)] }
def CrA.zero (t : CrA) (i k : Nat) : CrA := { t with σ := ⟨t.σ.regs, t.σ.objs.set i ((obA t.σ.objs (i : Int)).set k (false, 0))⟩ }
def loseW (G : CrA → Nat → CrA) (t : CrA) (v : Val) : CrA := if v.1 = false ∨ 0 < pts v.2.toNat t.σ then t else G t v.2.toNat
def goesK (G : CrA → Nat → CrA) (i : Nat) (t : CrA) (k : Nat) : CrA := loseW G (t.zero i k) ((obA t.σ.objs (i : Int)).getD k (false, 0))
def goesN : Nat → CrA → Nat → CrA
  | 0, t, _ => t
  | n + 1, t, i => (List.range' 0 (obA t.σ.objs (i : Int)).length).foldl (goesK (goesN n) i) (t.mark i)
def CrA.ng (t : CrA) : Nat := t.gone.countP fun g => !g
def CrA.lose (t : CrA) (v : Val) : CrA := loseW (goesN t.σ.objs.length) t v
theorem ptsO_set {j : Nat} : ∀ {l : List (List Val)} {i : Nat} (x : List Val) {o : List Val}, l[i]? = some o → ptsO j (l.set i x) + occ j o = ptsO j l + occ j x := by
  intro l
  induction l with
  | nil => intro i x o h; cases h
  | cons p l ih =>
    intro i x o h
    unfold ptsO at ih ⊢
    cases i with
    | zero =>
      have h1 : p = o := by simpa using h
      subst h1
      rw [List.set_cons_zero, List.map_cons, List.map_cons, List.sum_cons, List.sum_cons]
      omega
    | succ i =>
      have h1 : l[i]? = some o := by simpa using h
      have h2 := ih x h1
      rw [List.set_cons_succ, List.map_cons, List.map_cons, List.sum_cons, List.sum_cons]
      omega
theorem ptsO_app (j : Nat) (l : List (List Val)) (fs : List Val) : ptsO j (l ++ [fs]) = ptsO j l + occ j fs := by simp [ptsO]
theorem ptsO_mem {j : Nat} {l : List (List Val)} {i : Nat} {fs : List Val} (h : l[i]? = some fs) : occ j fs ≤ ptsO j l := by
  have h1 := ptsO_set (j := j) [] h
  rw [occ_nil] at h1
  omega
theorem ob_at {l : List (List Val)} {i : Nat} (h : i < l.length) : l[i]? = some (obA l (i : Int)) := by
  unfold obA
  rw [Int.toNat_natCast, List.getD_eq_getElem?_getD, List.getElem?_eq_getElem h]; rfl
/-- What a reference's memory may be. -/
structure CrOk (t : CrA) : Prop where
  lg : t.gone.length = t.σ.objs.length
  m : MOk t.σ
  th : ∀ j : Nat, t.gone[j]? = some true → pts j t.σ = 0
structure CrKp (t u : CrA) : Prop where
  r : u.σ.regs = t.σ.regs
  n : u.σ.objs.length = t.σ.objs.length
  m : u.ng ≤ t.ng
  g : ∀ j : Nat, t.gone[j]? = some true → u.gone[j]? = some true ∧ obA u.σ.objs (j : Int) = obA t.σ.objs (j : Int)
theorem CrKp.refl (t : CrA) : CrKp t t := ⟨rfl, rfl, Nat.le_refl _, fun _ h => ⟨h, rfl⟩⟩
theorem CrKp.trans {a b c : CrA} (h : CrKp a b) (k : CrKp b c) : CrKp a c := ⟨k.r.trans h.r, k.n.trans h.n, Nat.le_trans k.m h.m, fun j hj => by
  obtain ⟨h1, h2⟩ := h.g j hj
  obtain ⟨h3, h4⟩ := k.g j h1
  exact ⟨h3, h4.trans h2⟩⟩
/-- Beside the program's. -/
structure SimC (a : CnA) (t : CrA) : Prop where
  ob : a.objs = maskL t.σ.objs t.gone
  gl : a.gl = t.gl
  lc : a.cnt.length = t.σ.objs.length
  eq : ∀ j : Nat, j < t.σ.objs.length → a.cnt.getD j 0 = (pts j t.σ : Int)
theorem SimC.fld {a : CnA} {t : CrA} (h : SimC a t) (lg : t.gone.length = t.σ.objs.length) (i : Nat) (fs : List Val) : a.fld i = some fs ↔ t.gone[i]? = some false ∧ obA t.σ.objs (i : Int) = fs := by
  rw [CnA.fld_iff, h.ob, maskL_get _ _ lg]
  by_cases hi : i < t.σ.objs.length
  · rw [ob_at hi, Option.map_some, List.getD_eq_getElem?_getD]
    have hg : i < t.gone.length := by omega
    rw [List.getElem?_eq_getElem hg, Option.getD_some]
    cases hx : t.gone[i] <;> simp
  · rw [List.getElem?_eq_none (by omega), List.getElem?_eq_none (l := t.gone) (by omega)]
    simp
theorem ng_mark {t : CrA} {i : Nat} (h : t.gone[i]? = some false) : (t.mark i).ng + 1 = t.ng := by
  have gen : ∀ (l : List Bool) (i : Nat), l[i]? = some false → (l.set i true).countP (fun g => !g) + 1 = l.countP (fun g => !g) := by
    intro l
    induction l with
    | nil => intro i h; cases h
    | cons b l ih =>
      intro i h
      cases i with
      | zero =>
        have h1 : b = false := by simpa using h
        subst h1
        rw [List.set_cons_zero, List.countP_cons, List.countP_cons]; simp
      | succ i =>
        have h1 := ih i (by simpa using h)
        rw [List.set_cons_succ, List.countP_cons, List.countP_cons]; omega
  exact gen _ _ h
theorem CrOk.mark {t : CrA} (ok : CrOk t) {i : Nat} (h0 : pts i t.σ = 0) : CrOk (t.mark i) :=
  ⟨by show (t.gone.set i true).length = _; rw [List.length_set]; exact ok.lg, ok.m, fun j hj => by
    rw [show (t.mark i).gone = t.gone.set i true from rfl, List.getElem?_set] at hj
    split at hj
    · rename_i e; subst e; exact h0
    · exact ok.th j hj⟩
theorem CrKp.mark {t : CrA} {i : Nat} (h : t.gone[i]? = some false) : CrKp t (t.mark i) :=
  ⟨rfl, rfl, by have := ng_mark h; omega, fun j hj => ⟨by
    show (t.gone.set i true)[j]? = _
    rw [List.getElem?_set]
    split
    · rename_i e; subst e; rw [h] at hj; cases hj
    · exact hj, rfl⟩⟩
theorem SimC.mark {a : CnA} {t : CrA} (h : SimC a t) (lg : t.gone.length = t.σ.objs.length) (i : Nat) : SimC (a.go1 i) (t.mark i) :=
  ⟨by show a.objs.set i none = maskL t.σ.objs (t.gone.set i true); rw [h.ob, maskL_drop _ _ lg], by show a.gl ++ _ = t.gl ++ _; rw [h.gl], h.lc, h.eq⟩
theorem maskL_hid (objs : List (List Val)) (gone : List Bool) (h : gone.length = objs.length) (i : Nat) (hg : gone[i]? = some true) (fs : List Val) : maskL (objs.set i fs) gone = maskL objs gone := by
  refine List.ext_getElem? fun j => ?_
  rw [maskL_get _ _ (by rw [List.length_set]; exact h), List.getElem?_set, maskL_get _ _ h]
  by_cases e : i = j
  · subst e
    rw [if_pos rfl, List.getD_eq_getElem?_getD, hg]
    by_cases hl : i < objs.length
    · rw [if_pos hl, List.getElem?_eq_getElem hl]; rfl
    · rw [if_neg hl, List.getElem?_eq_none (by omega)]
  · rw [if_neg e]
/-- A field of one that went is emptied. -/
theorem cr_zero {t : CrA} (ok : CrOk t) {i : Nat} (hg : t.gone[i]? = some true) {pre l : List Val} {v : Val} (hob : obA t.σ.objs (i : Int) = pre ++ v :: l) :
    CrOk (t.zero i pre.length) ∧ (∀ j, pts j (t.zero i pre.length).σ + (if refB j v = true then 1 else 0) = pts j t.σ) ∧ obA (t.zero i pre.length).σ.objs (i : Int) = pre ++ (false, 0) :: l ∧
    (t.zero i pre.length).σ.objs.length = t.σ.objs.length ∧ (∀ j : Nat, j ≠ i → obA (t.zero i pre.length).σ.objs (j : Int) = obA t.σ.objs (j : Int)) := by
  have hi : i < t.σ.objs.length := by rw [← ok.lg]; exact (List.getElem?_eq_some_iff.1 hg).1
  have hat := ob_at hi
  have hset : (obA t.σ.objs (i : Int)).set pre.length (false, 0) = pre ++ (false, 0) :: l := by rw [hob]; simp
  have hz : (t.zero i pre.length).σ = ⟨t.σ.regs, t.σ.objs.set i (pre ++ (false, 0) :: l)⟩ := by show (⟨_, t.σ.objs.set i _⟩ : MSt) = _; rw [hset]
  have hp : ∀ j, pts j (t.zero i pre.length).σ + (if refB j v = true then 1 else 0) = pts j t.σ := fun j => by
    rw [hz]
    unfold pts
    have h1 := ptsO_set (j := j) (pre ++ (false, 0) :: l) hat
    rw [hob, occ_app, occ_app, occ_cons, occ_cons, show refB j (false, 0) = false from rfl] at h1
    dsimp only
    rw [if_neg (show ¬ (false = true) by simp)] at h1
    omega
  have hlen : (t.zero i pre.length).σ.objs.length = t.σ.objs.length := by rw [hz]; exact List.length_set ..
  refine ⟨⟨by rw [hlen]; exact ok.lg, ?_, fun j hj => by have := hp j; have := ok.th j hj; omega⟩, hp, ?_, hlen, fun j hj => ?_⟩
  · have hv : ValsOk t.σ.objs.length (pre ++ v :: l) := by
      have := (ok.m.ob (i : Int)).1
      rwa [hob] at this
    have hv2 : ValsOk t.σ.objs.length (pre ++ (false, 0) :: l) := fun u hu h1 => by
      rcases List.mem_append.1 hu with h2 | h2
      · exact hv u (List.mem_append_left _ h2) h1
      · rcases List.mem_cons.1 h2 with rfl | h3
        · cases h1
        · exact hv u (List.mem_append_right _ (List.mem_cons_of_mem _ h3)) h1
    have h4 : (pre ++ v :: l).length ≤ 4 := by
      have := (ok.m.ob (i : Int)).2
      rwa [hob] at this
    rw [hz]
    refine ⟨ok.m.r8, ?_, fun fs hf => ?_, fun fs hf => ?_⟩
    · dsimp only; rw [List.length_set]; exact ok.m.vr
    · dsimp only at hf ⊢
      rw [List.length_set]
      rcases mem_set_ hf with h1 | rfl
      · exact ok.m.vo fs h1
      · exact hv2
    · dsimp only at hf
      rcases mem_set_ hf with h1 | rfl
      · exact ok.m.f4 fs h1
      · simp only [List.length_append, List.length_cons] at h4 ⊢; exact h4
  · rw [hz]
    unfold obA
    dsimp only
    rw [Int.toNat_natCast, List.getD_eq_getElem?_getD, List.getElem?_set, if_pos rfl, if_pos hi]; rfl
  · rw [hz]
    unfold obA
    dsimp only
    rw [Int.toNat_natCast, List.getD_eq_getElem?_getD, List.getElem?_set, if_neg (fun e => hj e.symm), ← List.getD_eq_getElem?_getD]
def CnA.decV (a : CnA) (v : Val) : CnA := if v.1 = true then a.dec v else a
theorem decV_obj (a : CnA) (v : Val) : (a.decV v).objs = a.objs ∧ (a.decV v).gl = a.gl ∧ (a.decV v).cnt.length = a.cnt.length ∧ (a.decV v).regs = a.regs := by
  unfold CnA.decV
  split
  · exact ⟨rfl, rfl, List.length_set .., rfl⟩
  · exact ⟨rfl, rfl, rfl, rfl⟩
theorem decV_cnt (a : CnA) {v : Val} (hv : v.1 = true → ∃ z : Nat, v.2 = (z : Int) ∧ z < a.cnt.length) (j : Nat) : (a.decV v).cnt.getD j 0 + (if refB j v = true then 1 else 0) = a.cnt.getD j 0 := by
  unfold CnA.decV
  by_cases hb : v.1 = true
  · rw [if_pos hb]
    obtain ⟨z, e, hz⟩ := hv hb
    unfold CnA.dec
    rw [e, Int.toNat_natCast, add_getD a z (-1) hz]
    have hr : refB j v = decide (j = z) := by unfold refB; rw [hb, e]; simp only [Bool.true_and]; exact decide_eq_decide.2 (by omega)
    rw [hr]
    by_cases ej : j = z
    · rw [if_pos ej, if_pos (by simp [ej])]; omega
    · rw [if_neg ej, if_neg (by simp [ej])]; omega
  · rw [if_neg hb, if_neg (by unfold refB; simp [show v.1 = false by simpa using hb])]; omega
def GoesOk (D : CnA → Nat → CnA) (G : CrA → Nat → CrA) (n : Nat) : Prop := ∀ (a : CnA) (t : CrA) (i : Nat), CrOk t → SimC a t → t.gone[i]? = some false → pts i t.σ = 0 → t.ng ≤ n → CrOk (G t i) ∧ CrKp t (G t i) ∧ SimC (D a i) (G t i)
theorem lose_ok {D : CnA → Nat → CnA} {G : CrA → Nat → CrA} {n : Nat} (hG : GoesOk D G n) {a : CnA} {t : CrA} (ok : CrOk t) {v : Val} (hs : SimC (a.decV v) t) (hv : v.1 = true → ∃ z : Nat, v.2 = (z : Int) ∧ t.gone[z]? = some false) (hn : t.ng ≤ n) :
    CrOk (loseW G t v) ∧ CrKp t (loseW G t v) ∧ SimC (downW D a v) (loseW G t v) := by
  unfold loseW downW
  by_cases hb : v.1 = false
  · rw [if_pos (.inl hb), if_pos hb]
    unfold CnA.decV at hs
    rw [if_neg (by rw [hb]; simp)] at hs
    exact ⟨ok, CrKp.refl t, hs⟩
  · rw [if_neg hb]
    have hb' : v.1 = true := by simpa using hb
    unfold CnA.decV at hs
    rw [if_pos hb'] at hs
    obtain ⟨z, e, hz⟩ := hv hb'
    have hzl : z < t.σ.objs.length := by rw [← ok.lg]; exact (List.getElem?_eq_some_iff.1 hz).1
    rw [e, Int.toNat_natCast]
    have h1 := hs.eq z hzl
    by_cases h0 : 0 < pts z t.σ
    · rw [if_pos (.inr h0), if_neg (by rw [h1]; omega)]
      exact ⟨ok, CrKp.refl t, hs⟩
    · rw [if_neg (fun h => h.elim hb h0), if_pos (by rw [h1]; omega)]
      exact hG _ t z ok hs hz (by omega) hn
theorem goes_loop {D : CnA → Nat → CnA} {G : CrA → Nat → CrA} {n : Nat} (hG : GoesOk D G n) {i : Nat} : ∀ (l pre : List Val) {a : CnA} {t : CrA}, CrOk t → SimC a t → t.gone[i]? = some true → obA t.σ.objs (i : Int) = pre ++ l → t.ng ≤ n →
    CrOk ((List.range' pre.length l.length).foldl (goesK G i) t) ∧ (((List.range' pre.length l.length).foldl (goesK G i) t).ng ≤ t.ng ∧ ((List.range' pre.length l.length).foldl (goesK G i) t).σ.regs = t.σ.regs ∧ ((List.range' pre.length l.length).foldl (goesK G i) t).σ.objs.length = t.σ.objs.length ∧
    ((List.range' pre.length l.length).foldl (goesK G i) t).gone[i]? = some true ∧ ∀ j : Nat, j ≠ i → t.gone[j]? = some true → ((List.range' pre.length l.length).foldl (goesK G i) t).gone[j]? = some true ∧ obA ((List.range' pre.length l.length).foldl (goesK G i) t).σ.objs (j : Int) = obA t.σ.objs (j : Int)) ∧
    SimC (l.foldl (downW D) a) ((List.range' pre.length l.length).foldl (goesK G i) t) := by
  intro l
  induction l with
  | nil => exact fun pre a t ok hs hg hob hn => ⟨ok, ⟨Nat.le_refl _, rfl, rfl, hg, fun j _ hj => ⟨hj, rfl⟩⟩, hs⟩
  | cons v l ih =>
    intro pre a t ok hs hg hob hn
    obtain ⟨k1, k3, k4, k5, k6⟩ := cr_zero ok hg hob
    have hv : v.1 = true → ∃ z : Nat, v.2 = (z : Int) ∧ z < t.σ.objs.length := fun hb => by
      have h1 := (ok.m.ob (i : Int)).1 v (by rw [hob]; simp) hb
      obtain ⟨z, hz⟩ := int_nat h1.1
      exact ⟨z, hz, by omega⟩
    have hv2 : v.1 = true → ∃ z : Nat, v.2 = (z : Int) ∧ (t.zero i pre.length).gone[z]? = some false := fun hb => by
      obtain ⟨z, e, hz⟩ := hv hb
      refine ⟨z, e, ?_⟩
      have h1 := k3 z
      rw [if_pos (refB_self hb e)] at h1
      show t.gone[z]? = some false
      cases h2 : t.gone[z]? with
      | none => rw [List.getElem?_eq_none_iff, ok.lg] at h2; omega
      | some b =>
        cases b
        · rfl
        · have := ok.th z h2; omega
    have hs2 : SimC (a.decV v) (t.zero i pre.length) := by
      obtain ⟨d1, d2, d3, _⟩ := decV_obj a v
      refine ⟨?_, d2.trans hs.gl, by rw [d3, k5]; exact hs.lc, fun j hj => ?_⟩
      · rw [d1, hs.ob]
        show _ = maskL (t.σ.objs.set i _) t.gone
        rw [maskL_hid _ _ ok.lg _ hg]
      · have h1 := decV_cnt a (v := v) (fun hb => by rw [hs.lc]; exact hv hb) j
        have h2 := k3 j
        rw [k5] at hj
        rw [hs.eq j hj] at h1
        split at h1
        · rename_i hr; rw [if_pos hr] at h2; omega
        · rename_i hr; rw [if_neg hr] at h2; omega
    obtain ⟨l1, l2, l3⟩ := lose_ok hG k1 hs2 hv2 hn
    have hbody : goesK G i t pre.length = loseW G (t.zero i pre.length) v := by
      unfold goesK
      rw [hob]
      simp
    have hgi := l2.g i hg
    rw [k4] at hgi
    obtain ⟨m1, ⟨m2, m3, m4, m5, m6⟩, m7⟩ := ih (pre ++ [(false, 0)]) l1 l3 hgi.1 (by rw [hgi.2]; simp) (Nat.le_trans l2.m hn)
    rw [List.length_append, List.length_singleton] at m1 m2 m3 m4 m5 m6 m7
    rw [List.length_cons, List.range'_succ, List.foldl_cons, List.foldl_cons, hbody]
    refine ⟨m1, ⟨Nat.le_trans m2 l2.m, m3.trans l2.r, m4.trans (l2.n.trans k5), m5, fun j hj hjt => ?_⟩, m7⟩
    obtain ⟨p1, p2⟩ := l2.g j hjt
    obtain ⟨p3, p4⟩ := m6 j hj p1
    exact ⟨p3, p4.trans (p2.trans (k6 j hj))⟩
theorem goes_ok : ∀ n, GoesOk (cdropN n) (goesN n) n := by
  intro n
  induction n with
  | zero =>
    intro a t i ok hs hg h0 hn
    have := ng_mark hg
    omega
  | succ n ih =>
    intro a t i ok hs hg h0 hn
    have h1 := ng_mark hg
    have hil : i < t.gone.length := (List.getElem?_eq_some_iff.1 hg).1
    have hgm : (t.mark i).gone[i]? = some true := by show (t.gone.set i true)[i]? = _; rw [List.getElem?_set, if_pos rfl, if_pos hil]
    have hf := (hs.fld ok.lg i (obA t.σ.objs (i : Int))).2 ⟨hg, rfl⟩
    obtain ⟨m1, ⟨m2, m3, m4, m5, m6⟩, m7⟩ := goes_loop ih (obA t.σ.objs (i : Int)) [] (ok.mark h0) (hs.mark ok.lg i) hgm rfl (by omega)
    unfold cdropN goesN
    rw [hf, Option.getD_some]
    refine ⟨m1, ⟨m3, m4, Nat.le_trans m2 (by omega), fun j hj => ?_⟩, m7⟩
    have hne : j ≠ i := by rintro rfl; rw [hg] at hj; cases hj
    exact m6 j hne ((CrKp.mark hg).g j hj).1
end Go.Proofs.Ytjphckfbbiehdaa
