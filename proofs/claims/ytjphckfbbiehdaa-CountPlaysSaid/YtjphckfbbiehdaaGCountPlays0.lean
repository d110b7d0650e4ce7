/- A memory that counts, plain: one reference more, one fewer; an object goes; what the counts say. A memory that counts, plain: what a deed does, and that the counts stay right. A memory that counts, plain: what the reference does; objects go alike. -/
import Derived.Test.YtjphckfbbiehdaaGIdealPlays18
import Derived.Test.YtjphckfbbiehdaaGTriPlays0
import Derived.Test.YtjphckfbbiehdaaGTriPlays5
set_option linter.unusedSimpArgs false
set_option linter.unusedVariables false
namespace Go.Proofs.Ytjphckfbbiehdaa

structure CnA where
  regs : List Val
  objs : List (Option (List Val))
  cnt : List Int
  gl : List Int
def CnA.fld (a : CnA) (i : Nat) : Option (List Val) := (a.objs[i]?).getD none
def CnA.vok (a : CnA) (v : Val) : Prop := v.1 = true → ∃ (i : Nat) (fs : List Val), v.2 = (i : Int) ∧ a.fld i = some fs
def CnA.add (a : CnA) (z : Nat) (x : Int) : CnA := { a with cnt := a.cnt.set z (a.cnt.getD z 0 + x) }
def CnA.up (a : CnA) (v : Val) : CnA := if v.1 = true then a.add v.2.toNat 1 else a
def CnA.dec (a : CnA) (v : Val) : CnA := a.add v.2.toNat (-1)
def CnA.go1 (a : CnA) (i : Nat) : CnA := { a with objs := a.objs.set i none, gl := a.gl ++ [(i : Int)] }
def downW (D : CnA → Nat → CnA) (a : CnA) (v : Val) : CnA :=
  if v.1 = false then a else if (a.dec v).cnt.getD v.2.toNat 0 = 0 then D (a.dec v) v.2.toNat else a.dec v
def cdropN : Nat → CnA → Nat → CnA
  | 0, a, _ => a
  | n + 1, a, i => ((a.fld i).getD []).foldl (downW (cdropN n)) (a.go1 i)
def someN {α : Type} (l : List (Option α)) : Nat := (l.filter Option.isSome).length
def CnA.num (a : CnA) : Nat := someN a.objs
def CnA.down (a : CnA) (v : Val) : CnA := downW (cdropN a.objs.length) a v
theorem CnA.fld_iff {a : CnA} {i : Nat} {fs : List Val} : a.fld i = some fs ↔ a.objs[i]? = some (some fs) := by
  unfold CnA.fld
  cases h : a.objs[i]? with
  | none => simp
  | some o => cases o <;> simp
theorem CnA.fld_lt {a : CnA} {i : Nat} {fs : List Val} (h : a.fld i = some fs) : i < a.objs.length := (List.getElem?_eq_some_iff.1 (CnA.fld_iff.1 h)).1
theorem someN_le {α : Type} (l : List (Option α)) : someN l ≤ l.length := List.length_filter_le ..
theorem someN_set {α : Type} : ∀ {l : List (Option α)} {i : Nat} {x : α}, l[i]? = some (some x) → someN (l.set i none) + 1 = someN l := by
  intro l
  induction l with
  | nil => intro i x h; cases h
  | cons o l ih =>
    intro i x h
    cases i with
    | zero =>
      have h1 : o = some x := by simpa using h
      subst h1
      simp [someN]
    | succ i =>
      have h1 : l[i]? = some (some x) := by simpa using h
      have h2 := ih h1
      unfold someN at h2 ⊢
      rw [List.set_cons_succ, List.filter_cons, List.filter_cons]
      split
      · simp only [List.length_cons]; omega
      · exact h2
theorem someN_app {α : Type} (l : List (Option α)) (x : α) : someN (l ++ [some x]) = someN l + 1 := by simp [someN, List.filter_append]
theorem someN_put {α : Type} : ∀ {l : List (Option α)} {i : Nat} {x : α} (y : α), l[i]? = some (some x) → someN (l.set i (some y)) = someN l := by
  intro l
  induction l with
  | nil => intro i x y h; cases h
  | cons o l ih =>
    intro i x y h
    cases i with
    | zero =>
      have h1 : o = some x := by simpa using h
      subst h1
      simp [someN]
    | succ i =>
      have h1 : l[i]? = some (some x) := by simpa using h
      have h2 := ih y h1
      unfold someN at h2 ⊢
      rw [List.set_cons_succ, List.filter_cons, List.filter_cons]
      split
      · simp only [List.length_cons]; omega
      · exact h2

/-! ### How often an object is referred to. -/
def refB (j : Nat) (v : Val) : Bool := v.1 && decide (v.2 = (j : Int))
def occ (j : Nat) (l : List Val) : Nat := l.countP (refB j)
def occO (j : Nat) (objs : List (Option (List Val))) : Nat := (objs.map fun o => occ j (o.getD [])).sum
theorem occ_cons (j : Nat) (v : Val) (l : List Val) : occ j (v :: l) = occ j l + if refB j v = true then 1 else 0 := by unfold occ; rw [List.countP_cons]
theorem occ_app (j : Nat) (l m : List Val) : occ j (l ++ m) = occ j l + occ j m := by unfold occ; rw [List.countP_append]
theorem occ_nil (j : Nat) : occ j [] = 0 := rfl
theorem occ_le (j : Nat) (l : List Val) : occ j l ≤ l.length := List.countP_le_length
theorem occ_set {j : Nat} : ∀ {l : List Val} {k : Nat} (v : Val) {u : Val}, l[k]? = some u → occ j (l.set k v) + (if refB j u = true then 1 else 0) = occ j l + if refB j v = true then 1 else 0 := by
  intro l
  induction l with
  | nil => intro k v u h; cases h
  | cons x l ih =>
    intro k v u h
    cases k with
    | zero =>
      have h1 : x = u := by simpa using h
      subst h1
      rw [List.set_cons_zero, occ_cons, occ_cons]
      omega
    | succ k =>
      have h1 : l[k]? = some u := by simpa using h
      have h2 := ih v h1
      rw [List.set_cons_succ, occ_cons, occ_cons]
      omega
theorem occ_mem {j : Nat} {l : List Val} {v : Val} (h : v ∈ l) (hv : refB j v = true) : 1 ≤ occ j l := List.countP_pos_iff.2 ⟨v, h, hv⟩
theorem refB_self {v : Val} {j : Nat} (h : v.1 = true) (h2 : v.2 = (j : Int)) : refB j v = true := by unfold refB; rw [h, h2]; simp
theorem refB_eq {v : Val} {j : Nat} (h : refB j v = true) : v.1 = true ∧ v.2 = (j : Int) := by
  unfold refB at h
  simpa using h
theorem occO_set {j : Nat} : ∀ {l : List (Option (List Val))} {i : Nat} (x : Option (List Val)) {o : Option (List Val)}, l[i]? = some o → occO j (l.set i x) + occ j (o.getD []) = occO j l + occ j (x.getD []) := by
  intro l
  induction l with
  | nil => intro i x o h; cases h
  | cons p l ih =>
    intro i x o h
    unfold occO at ih ⊢
    cases i with
    | zero =>
      have h1 : p = o := by simpa using h
      subst h1
      rw [List.set_cons_zero, List.map_cons, List.map_cons, List.sum_cons, List.sum_cons]
      omega
    | succ i =>
      have h1 : l[i]? = some o := by simpa using h
      have h2 := ih x h1
      rw [List.set_cons_succ, List.map_cons, List.map_cons, List.sum_cons, List.sum_cons]
      omega
theorem occO_app (j : Nat) (l : List (Option (List Val))) (fs : List Val) : occO j (l ++ [some fs]) = occO j l + occ j fs := by simp [occO]
theorem occO_mem {j : Nat} {l : List (Option (List Val))} {i : Nat} {fs : List Val} (h : l[i]? = some (some fs)) : occ j fs ≤ occO j l := by
  have h1 := occO_set (j := j) none h
  simp only [Option.getD_some, Option.getD_none, occ_nil] at h1
  omega
theorem occO_le {j : Nat} : ∀ {l : List (Option (List Val))}, (∀ (i : Nat) (fs : List Val), l[i]? = some (some fs) → fs.length ≤ 4) → occO j l ≤ 4 * l.length := by
  intro l
  induction l with
  | nil => intro _; exact Nat.le_refl _
  | cons o l ih =>
    intro h
    have h1 := ih fun i fs hi => h (i + 1) fs (by simpa using hi)
    unfold occO at h1 ⊢
    rw [List.map_cons, List.sum_cons, List.length_cons]
    have h2 : occ j (o.getD []) ≤ 4 := by
      cases o with
      | none => simp [occ_nil]
      | some fs => exact Nat.le_trans (occ_le _ _) (h 0 fs (by simp))
    omega
theorem occ_zeros (j n : Nat) : occ j (zeroVs n) = 0 := by
  unfold occ zeroVs
  rw [List.countP_eq_zero]
  intro v hv
  obtain ⟨_, rfl⟩ := List.mem_replicate.1 hv
  simp [refB]

/-! ### What the counts say: all references, those that stand somewhere and those (P) that are held beside. -/
structure CnInv (a : CnA) (P : List Val) : Prop where
  cl : a.cnt.length = a.objs.length
  eq : ∀ j : Nat, j < a.objs.length → a.cnt.getD j 0 = ((occ j P + occO j a.objs : Nat) : Int)
  th : ∀ j, j < a.objs.length → a.fld j = none → a.cnt.getD j 0 = 0
  vp : ∀ v ∈ P, v.1 = true → ∃ j : Nat, j < a.objs.length ∧ v.2 = (j : Int)
  vf : ∀ i fs, a.fld i = some fs → ∀ v ∈ fs, v.1 = true → ∃ j : Nat, j < a.objs.length ∧ v.2 = (j : Int)
  f4 : ∀ i fs, a.fld i = some fs → fs.length ≤ 4
theorem CnInv.congr {a : CnA} {P Q : List Val} (h : CnInv a P) (h1 : ∀ j, occ j Q = occ j P) (h2 : ∀ v ∈ Q, v.1 = true → ∃ j : Nat, j < a.objs.length ∧ v.2 = (j : Int)) : CnInv a Q :=
  ⟨h.cl, fun j hj => by rw [h.eq j hj, h1], h.th, h2, h.vf, h.f4⟩
theorem CnInv.perm {a : CnA} {P Q : List Val} (h : CnInv a P) (hp : Q.Perm P) : CnInv a Q :=
  h.congr (fun j => hp.countP_eq _) fun v hv => h.vp v (hp.mem_iff.1 hv)
theorem CnInv.off {a : CnA} {P : List Val} {v : Val} (h : CnInv a (v :: P)) (hv : v.1 = false) : CnInv a P :=
  h.congr (fun j => by rw [occ_cons, if_neg (by unfold refB; simp [hv])]; rfl) fun u hu => h.vp u (List.mem_cons_of_mem _ hu)
theorem CnInv.on {a : CnA} {P : List Val} {v : Val} (h : CnInv a P) (hv : v.1 = false) : CnInv a (v :: P) :=
  h.congr (fun j => by rw [occ_cons, if_neg (by unfold refB; simp [hv])]; rfl) fun u hu h1 => by
    rcases List.mem_cons.1 hu with rfl | h2
    · rw [hv] at h1; cases h1
    · exact h.vp u h2 h1
theorem CnInv.pos {a : CnA} {P : List Val} (h : CnInv a P) {j : Nat} (hj : j < a.objs.length) (h1 : 1 ≤ occ j P + occO j a.objs) : ∃ fs, a.fld j = some fs := by
  cases hf : a.fld j with
  | some fs => exact ⟨fs, rfl⟩
  | none =>
    have h2 := h.th j hj hf
    rw [h.eq j hj] at h2
    omega
theorem CnInv.vokP {a : CnA} {P : List Val} (h : CnInv a P) {v : Val} (hv : v ∈ P) : a.vok v := fun h1 => by
  obtain ⟨j, hj, e⟩ := h.vp v hv h1
  have h2 := occ_mem hv (refB_self h1 e)
  obtain ⟨fs, hf⟩ := h.pos hj (by omega)
  exact ⟨j, fs, e, hf⟩
theorem CnInv.vokF {a : CnA} {P : List Val} (h : CnInv a P) {i : Nat} {gs : List Val} {v : Val} (hg : a.fld i = some gs) (hv : v ∈ gs) : a.vok v := fun h1 => by
  obtain ⟨j, hj, e⟩ := h.vf i gs hg v hv h1
  have h2 := occ_mem hv (refB_self h1 e)
  have h3 := occO_mem (j := j) (CnA.fld_iff.1 hg)
  obtain ⟨fs, hf⟩ := h.pos hj (by omega)
  exact ⟨j, fs, e, hf⟩
theorem CnInv.bound {a : CnA} {P : List Val} (h : CnInv a P) (j : Nat) : 0 ≤ a.cnt.getD j 0 ∧ a.cnt.getD j 0 ≤ P.length + 4 * a.objs.length := by
  by_cases hj : j < a.objs.length
  · rw [h.eq j hj]
    have h1 := occ_le j P
    have h2 := occO_le (j := j) (l := a.objs) fun i fs hi => h.f4 i fs (CnA.fld_iff.2 hi)
    omega
  · have h1 : a.cnt.getD j 0 = 0 := by rw [List.getD_eq_getElem?_getD, List.getElem?_eq_none (by rw [h.cl]; omega)]; rfl
    rw [h1]; omega
theorem add_getD (a : CnA) (z : Nat) (x : Int) (hz : z < a.cnt.length) (j : Nat) : (a.add z x).cnt.getD j 0 = a.cnt.getD j 0 + if j = z then x else 0 := by
  unfold CnA.add
  dsimp only
  rw [List.getD_eq_getElem?_getD, List.getElem?_set]
  by_cases e : z = j
  · subst e
    rw [if_pos rfl, if_pos hz, if_pos rfl]; rfl
  · rw [if_neg e, if_neg (fun h => e h.symm), ← List.getD_eq_getElem?_getD]; omega
theorem CnInv.up {a : CnA} {P : List Val} (h : CnInv a P) {v : Val} (hv : a.vok v) : CnInv (a.up v) (v :: P) := by
  unfold CnA.up
  by_cases hb : v.1 = true
  · rw [if_pos hb]
    obtain ⟨z, fs, e, hf⟩ := hv hb
    have hz := CnA.fld_lt hf
    rw [e, Int.toNat_natCast]
    have hg := add_getD a z 1 (by rw [h.cl]; exact hz)
    have hr : ∀ j, refB j v = decide (j = z) := fun j => by unfold refB; rw [hb, e]; simp only [Bool.true_and]; exact decide_eq_decide.2 (by omega)
    refine ⟨by show (a.cnt.set _ _).length = _; rw [List.length_set]; exact h.cl, fun j hj => ?_, fun j hj hn => ?_, fun u hu h1 => ?_, h.vf, h.f4⟩
    · rw [hg, h.eq j hj, occ_cons, hr]
      show _ = ((_ + occO j a.objs : Nat) : Int)
      by_cases ej : j = z
      · rw [if_pos ej, if_pos (by simp [ej])]; omega
      · rw [if_neg ej, if_neg (by simp [ej])]; omega
    · rw [hg]
      by_cases ej : j = z
      · subst ej
        rw [show (a.add j 1).fld j = a.fld j from rfl, hf] at hn; cases hn
      · rw [if_neg ej, h.th j hj hn]; rfl
    · rcases List.mem_cons.1 hu with rfl | h2
      · exact ⟨z, hz, e⟩
      · exact h.vp u h2 h1
  · rw [if_neg hb]
    exact h.on (by simpa using hb)
theorem CnInv.dec {a : CnA} {P : List Val} {v : Val} (h : CnInv a (v :: P)) (hb : v.1 = true) : CnInv (a.dec v) P := by
  obtain ⟨z, fs, e, hf⟩ := h.vokP (List.mem_cons_self ..) hb
  have hz := CnA.fld_lt hf
  unfold CnA.dec
  rw [e, Int.toNat_natCast]
  have hg := add_getD a z (-1) (by rw [h.cl]; exact hz)
  have hr : ∀ j, refB j v = decide (j = z) := fun j => by unfold refB; rw [hb, e]; simp only [Bool.true_and]; exact decide_eq_decide.2 (by omega)
  refine ⟨by show (a.cnt.set _ _).length = _; rw [List.length_set]; exact h.cl, fun j hj => ?_, fun j hj hn => ?_, fun u hu h1 => h.vp u (List.mem_cons_of_mem _ hu) h1, h.vf, h.f4⟩
  · rw [hg, h.eq j hj, occ_cons, hr]
    show _ = ((_ + occO j a.objs : Nat) : Int)
    by_cases ej : j = z
    · rw [if_pos ej, if_pos (by simp [ej])]; omega
    · rw [if_neg ej, if_neg (by simp [ej])]; omega
  · rw [hg]
    by_cases ej : j = z
    · subst ej
      rw [show (a.add j (-1)).fld j = a.fld j from rfl, hf] at hn; cases hn
    · rw [if_neg ej, h.th j hj hn]; rfl
theorem go1_fld (a : CnA) (i : Nat) (j : Nat) (gs : List Val) : (a.go1 i).fld j = some gs ↔ j ≠ i ∧ a.fld j = some gs := by
  rw [CnA.fld_iff, CnA.fld_iff]
  show (a.objs.set i none)[j]? = _ ↔ _
  rw [List.getElem?_set]
  by_cases e : i = j
  · subst e
    rw [if_pos rfl]
    split <;> simp
  · rw [if_neg e]
    exact ⟨fun h => ⟨fun h1 => e h1.symm, h⟩, fun h => h.2⟩
theorem CnInv.go1 {a : CnA} {P : List Val} (h : CnInv a P) {i : Nat} {fs : List Val} (hf : a.fld i = some fs) (hc : a.cnt.getD i 0 = 0) : CnInv (a.go1 i) (fs ++ P) := by
  have hl : (a.go1 i).objs.length = a.objs.length := List.length_set ..
  refine ⟨by rw [hl]; exact h.cl, fun j hj => ?_, fun j hj hn => ?_, fun v hv h1 => ?_, fun j gs hg v hv h1 => ?_, fun j gs hg => h.f4 j gs ((go1_fld a i j gs).1 hg).2⟩
  · rw [hl] at hj
    show a.cnt.getD j 0 = _
    rw [h.eq j hj, occ_app]
    have h2 := occO_set (j := j) none (CnA.fld_iff.1 hf)
    simp only [Option.getD_some, Option.getD_none, occ_nil] at h2
    show _ = ((_ + occO j (a.objs.set i none) : Nat) : Int)
    omega
  · rw [hl] at hj
    show a.cnt.getD j 0 = 0
    by_cases e : j = i
    · rw [e]; exact hc
    · refine h.th j hj ?_
      cases hg : a.fld j with
      | none => rfl
      | some gs => rw [(go1_fld a i j gs).2 ⟨e, hg⟩] at hn; cases hn
  · rw [hl]
    rcases List.mem_append.1 hv with h2 | h2
    · exact h.vf i fs hf v h2 h1
    · exact h.vp v h2 h1
  · rw [hl]
    exact h.vf j gs ((go1_fld a i j gs).1 hg).2 v hv h1
/-- What stays as it is while objects go. -/
structure CnKp (a b : CnA) : Prop where
  r : b.regs = a.regs
  n : b.objs.length = a.objs.length
  m : b.num ≤ a.num
  l : b.gl.length + b.num ≤ a.gl.length + a.num
  f : ∀ i fs, b.fld i = some fs → a.fld i = some fs
theorem CnKp.refl (a : CnA) : CnKp a a := ⟨rfl, rfl, Nat.le_refl _, Nat.le_refl _, fun _ _ h => h⟩
theorem CnKp.trans {a b c : CnA} (h : CnKp a b) (k : CnKp b c) : CnKp a c := ⟨k.r.trans h.r, k.n.trans h.n, Nat.le_trans k.m h.m, Nat.le_trans k.l h.l, fun i fs hf => h.f i fs (k.f i fs hf)⟩
theorem go1_num {a : CnA} {i : Nat} {fs : List Val} (hf : a.fld i = some fs) : (a.go1 i).num + 1 = a.num := someN_set (CnA.fld_iff.1 hf)
theorem CnKp.go1 {a : CnA} {i : Nat} {fs : List Val} (hf : a.fld i = some fs) : CnKp a (a.go1 i) :=
  ⟨rfl, List.length_set .., by have := go1_num hf; omega, by have := go1_num hf; show (a.gl ++ [_]).length + _ ≤ _; rw [List.length_append, List.length_singleton]; omega, fun j gs h => ((go1_fld a i j gs).1 h).2⟩
theorem CnKp.dec (a : CnA) (v : Val) : CnKp a (a.dec v) := ⟨rfl, rfl, Nat.le_refl _, Nat.le_refl _, fun _ _ h => h⟩
def DropOk (D : CnA → Nat → CnA) (n : Nat) : Prop := ∀ (a : CnA) (P : List Val) (i : Nat) (fs : List Val), CnInv a P → a.fld i = some fs → a.cnt.getD i 0 = 0 → a.num ≤ n → CnInv (D a i) P ∧ CnKp a (D a i)
theorem CnInv.downW {D : CnA → Nat → CnA} {n : Nat} (hD : DropOk D n) {a : CnA} {P : List Val} {v : Val} (h : CnInv a (v :: P)) (hn : a.num ≤ n) : CnInv (downW D a v) P ∧ CnKp a (Go.Proofs.Ytjphckfbbiehdaa.downW D a v) := by
  unfold Go.Proofs.Ytjphckfbbiehdaa.downW
  by_cases hb : v.1 = false
  · rw [if_pos hb]; exact ⟨h.off hb, CnKp.refl a⟩
  · rw [if_neg hb]
    have hb' : v.1 = true := by simpa using hb
    have h1 := h.dec hb'
    obtain ⟨z, fs, e, hf⟩ := h.vokP (List.mem_cons_self ..) hb'
    split
    · rename_i hc
      rw [e, Int.toNat_natCast] at hc
      obtain ⟨k1, k2⟩ := hD _ P z fs h1 hf hc hn
      rw [e, Int.toNat_natCast]
      exact ⟨k1, (CnKp.dec a v).trans k2⟩
    · exact ⟨h1, CnKp.dec a v⟩
theorem CnInv.downs {D : CnA → Nat → CnA} {n : Nat} (hD : DropOk D n) : ∀ (l : List Val) {a : CnA} {P : List Val}, CnInv a (l ++ P) → a.num ≤ n → CnInv (l.foldl (Go.Proofs.Ytjphckfbbiehdaa.downW D) a) P ∧ CnKp a (l.foldl (Go.Proofs.Ytjphckfbbiehdaa.downW D) a) := by
  intro l
  induction l with
  | nil => exact fun h _ => ⟨h, CnKp.refl _⟩
  | cons v l ih =>
    intro a P h hn
    obtain ⟨k1, k2⟩ := CnInv.downW hD (P := l ++ P) h hn
    obtain ⟨k3, k4⟩ := ih k1 (Nat.le_trans k2.m hn)
    exact ⟨k3, k2.trans k4⟩
theorem cdrop_ok : ∀ n, DropOk (cdropN n) n := by
  intro n
  induction n with
  | zero =>
    intro a P i fs h hf hc hn
    have := go1_num hf
    omega
  | succ n ih =>
    intro a P i fs h hf hc hn
    have h1 := go1_num hf
    unfold cdropN
    rw [hf, Option.getD_some]
    obtain ⟨k1, k2⟩ := CnInv.downs ih fs (h.go1 hf hc) (by omega)
    exact ⟨k1, (CnKp.go1 hf).trans k2⟩
theorem CnInv.down {a : CnA} {P : List Val} {v : Val} (h : CnInv a (v :: P)) : CnInv (a.down v) P ∧ CnKp a (a.down v) :=
  CnInv.downW (cdrop_ok _) h (someN_le _)
end Go.Proofs.Ytjphckfbbiehdaa

namespace Go.Proofs.Ytjphckfbbiehdaa
open Go.RowKit

def CnA.sr (a : CnA) (r : Nat) (v : Val) : CnA := { a with regs := a.regs.set r v }
def CnA.hold (a : CnA) (r : Nat) (v : Val) : CnA := (a.up v).down (rgA a.regs (r : Int))
def CnA.seto (a : CnA) (i k : Nat) (v : Val) : CnA := { a with objs := a.objs.set i (some (((a.fld i).getD []).set k v)) }
def cnPut (a : CnA) (i k : Nat) (v : Val) : CnA := ((a.up v).seto i k v).down (((a.fld i).getD []).getD k (false, 0))
def CnA.push (a : CnA) (n : Nat) : CnA := { a with objs := a.objs ++ [some (zeroVs n)], cnt := a.cnt ++ [0] }
def cnNew (R : Int) (a : CnA) (n : Nat) : CnA × Int × Int := if R ≤ (a.num : Int) then (a, 0, 6) else (a.push n, a.objs.length, 0)
def cnErr (a : CnA) (v : Val) (at_ : Int) : Int := if v.1 = false then 5 else if at_ < 0 ∨ (((a.fld v.2.toNat).getD []).length : Int) ≤ at_ then 3 else 0
def CnA.sh (a : CnA) (r : Nat) (v : Val) : CnA := (a.hold r v).sr r v
def cnKst (R : Int) (d : DoV) (a : CnA) : OutV × CnA :=
  if d.k = 1 then
    if (cnNew R a d.n.toNat).2.2 ≠ 0 then (⟨(cnNew R a d.n.toNat).2.2, false, 0⟩, (cnNew R a d.n.toNat).1)
    else (⟨0, false, 0⟩, (cnNew R a d.n.toNat).1.sh d.to.toNat (true, (cnNew R a d.n.toNat).2.1))
  else if d.k = 2 then (⟨0, false, 0⟩, a.sh d.to.toNat (false, d.n))
  else if d.k = 3 then (⟨0, false, 0⟩, a.sh d.to.toNat (rgA a.regs d.fr))
  else if d.k = 4 then
    if cnErr a (rgA a.regs d.to) d.at_ ≠ 0 then (⟨cnErr a (rgA a.regs d.to) d.at_, false, 0⟩, a)
    else (⟨0, false, 0⟩, cnPut a (rgA a.regs d.to).2.toNat d.at_.toNat (rgA a.regs d.fr))
  else if d.k = 5 then
    if cnErr a (rgA a.regs d.fr) d.at_ ≠ 0 then (⟨cnErr a (rgA a.regs d.fr) d.at_, false, 0⟩, a)
    else (⟨0, false, 0⟩, a.sh d.to.toNat (((a.fld (rgA a.regs d.fr).2.toNat).getD []).getD d.at_.toNat (false, 0)))
  else if d.k = 6 then (⟨0, false, if rgA a.regs d.to = rgA a.regs d.fr then 1 else 0⟩, a)
  else (⟨0, (rgA a.regs d.fr).1, if (rgA a.regs d.fr).1 = true then (((a.fld (rgA a.regs d.fr).2.toNat).getD []).length : Int) else (rgA a.regs d.fr).2⟩, a)
def cnDo (R : Int) (d : DoV) (a : CnA) : OutV × CnA := if wrongM d ≠ 0 then (⟨wrongM d, false, 0⟩, a) else cnKst R d a

structure CnOk (a : CnA) : Prop where
  r8 : a.regs.length = 8
  inv : CnInv a a.regs
  gb : a.gl.length + a.num ≤ a.objs.length
theorem CnOk.vr {a : CnA} (ok : CnOk a) {v : Val} (hv : v ∈ a.regs) : a.vok v := ok.inv.vokP hv
theorem CnOk.rg {a : CnA} (ok : CnOk a) (r : Int) : a.vok (rgA a.regs r) := by
  unfold rgA
  rcases getD_mem_or a.regs r.toNat (false, 0) with h2 | h2
  · exact ok.vr h2
  · rw [h2]; intro h1; cases h1
theorem rgA_at {l : List Val} {r : Nat} (h : r < l.length) : l[r]? = some (rgA l (r : Int)) := by
  unfold rgA
  rw [Int.toNat_natCast, List.getD_eq_getElem?_getD, List.getElem?_eq_getElem h]; rfl
theorem up_regs (a : CnA) (v : Val) : (a.up v).regs = a.regs := by unfold CnA.up; split <;> rfl
theorem up_objs (a : CnA) (v : Val) : (a.up v).objs = a.objs := by unfold CnA.up; split <;> rfl
theorem up_fld (a : CnA) (v : Val) (i : Nat) : (a.up v).fld i = a.fld i := by unfold CnA.fld; rw [up_objs]
/-- A reference held beside takes the place of a register's, which is held beside. -/
theorem CnInv.swap {a : CnA} {l : List Val} {r : Nat} {u v : Val} (h : CnInv a (v :: l)) (hr : l[r]? = some u) : CnInv a (u :: l.set r v) := by
  refine h.congr (fun j => ?_) fun x hx h1 => ?_
  · have h2 := occ_set (j := j) v hr
    rw [occ_cons, occ_cons]; omega
  · rcases List.mem_cons.1 hx with rfl | h2
    · exact h.vp x (List.mem_cons_of_mem _ (List.mem_of_getElem? hr)) h1
    · rcases mem_set_ h2 with h3 | rfl
      · exact h.vp x (List.mem_cons_of_mem _ h3) h1
      · exact h.vp x (List.mem_cons_self ..) h1
theorem CnOk.hold {a : CnA} (ok : CnOk a) {r : Nat} (hr : r < 8) {v : Val} (hv : a.vok v) : CnInv (a.hold r v) (a.regs.set r v) ∧ CnKp (a.up v) (a.hold r v) := by
  have h1 := ok.inv.up hv
  exact (h1.swap (rgA_at (r := r) (by rw [ok.r8]; exact hr))).down
theorem up_gl (a : CnA) (v : Val) : (a.up v).gl = a.gl := by unfold CnA.up; split <;> rfl
theorem up_num (a : CnA) (v : Val) : (a.up v).num = a.num := by unfold CnA.num; rw [up_objs]
theorem up_kp (a : CnA) (v : Val) : CnKp a (a.up v) := ⟨up_regs a v, by rw [up_objs], by rw [up_num]; exact Nat.le_refl _, by rw [up_num, up_gl]; exact Nat.le_refl _, fun i fs h => by rw [up_fld] at h; exact h⟩
theorem CnOk.sh {a : CnA} (ok : CnOk a) {r : Nat} (hr : r < 8) {v : Val} (hv : a.vok v) : CnOk (a.sh r v) ∧ (a.sh r v).objs.length = a.objs.length := by
  obtain ⟨h1, h2⟩ := ok.hold hr hv
  have hk := (up_kp a v).trans h2
  refine ⟨⟨?_, ?_, ?_⟩, hk.n⟩
  · show ((a.hold r v).regs.set r v).length = 8
    rw [hk.r, List.length_set]; exact ok.r8
  · show CnInv (a.sh r v) ((a.hold r v).regs.set r v)
    rw [hk.r]
    exact ⟨h1.cl, h1.eq, h1.th, h1.vp, h1.vf, h1.f4⟩
  · show (a.hold r v).gl.length + (a.hold r v).num ≤ (a.hold r v).objs.length
    have := hk.l
    have := ok.gb
    rw [hk.n]; omega
theorem seto_fld {a : CnA} {i k : Nat} {fs : List Val} (v : Val) (hf : a.fld i = some fs) (j : Nat) (gs : List Val) : (a.seto i k v).fld j = some gs ↔ (j = i ∧ gs = fs.set k v) ∨ (j ≠ i ∧ a.fld j = some gs) := by
  rw [CnA.fld_iff, CnA.fld_iff]
  show (a.objs.set i _)[j]? = _ ↔ _
  rw [List.getElem?_set, hf]
  have hl := CnA.fld_lt hf
  by_cases e : i = j
  · subst e
    rw [if_pos rfl, if_pos hl]
    simp [eq_comm]
  · rw [if_neg e]
    constructor
    · exact fun h => .inr ⟨fun h1 => e h1.symm, h⟩
    · rintro (⟨h1, _⟩ | ⟨_, h⟩)
      · exact absurd h1.symm e
      · exact h
theorem CnInv.seto {a : CnA} {P : List Val} {v u : Val} (h : CnInv a (v :: P)) {i k : Nat} {fs : List Val} (hf : a.fld i = some fs) (hu : fs[k]? = some u) : CnInv (a.seto i k v) (u :: P) := by
  have hl : (a.seto i k v).objs.length = a.objs.length := List.length_set ..
  have hs : (a.seto i k v).objs = a.objs.set i (some (fs.set k v)) := by show a.objs.set i _ = _; rw [hf]; rfl
  refine ⟨by rw [hl]; exact h.cl, fun j hj => ?_, fun j hj hn => ?_, fun x hx h1 => ?_, fun j gs hg x hx h1 => ?_, fun j gs hg => ?_⟩
  · rw [hl] at hj
    show a.cnt.getD j 0 = _
    rw [h.eq j hj, hs, occ_cons, occ_cons]
    have h2 := occO_set (j := j) (some (fs.set k v)) (CnA.fld_iff.1 hf)
    have h3 := occ_set (j := j) v hu
    simp only [Option.getD_some] at h2
    omega
  · rw [hl] at hj
    show a.cnt.getD j 0 = 0
    refine h.th j hj ?_
    cases hg : a.fld j with
    | none => rfl
    | some gs =>
      by_cases e : j = i
      · rw [(seto_fld v hf j _).2 (.inl ⟨e, rfl⟩)] at hn; cases hn
      · rw [(seto_fld v hf j gs).2 (.inr ⟨e, hg⟩)] at hn; cases hn
  · rw [hl]
    rcases List.mem_cons.1 hx with rfl | h2
    · exact h.vf i fs hf x (List.mem_of_getElem? hu) h1
    · exact h.vp x (List.mem_cons_of_mem _ h2) h1
  · rw [hl]
    rcases (seto_fld v hf j gs).1 hg with ⟨rfl, rfl⟩ | ⟨_, h2⟩
    · rcases mem_set_ hx with h3 | rfl
      · exact h.vf j fs hf x h3 h1
      · exact h.vp x (List.mem_cons_self ..) h1
    · exact h.vf j gs h2 x hx h1
  · rcases (seto_fld v hf j gs).1 hg with ⟨rfl, rfl⟩ | ⟨_, h2⟩
    · rw [List.length_set]; exact h.f4 j fs hf
    · exact h.f4 j gs h2
theorem seto_num {a : CnA} {i k : Nat} {fs : List Val} (v : Val) (hf : a.fld i = some fs) : (a.seto i k v).num = a.num := someN_put _ (CnA.fld_iff.1 hf)
theorem CnOk.put {a : CnA} (ok : CnOk a) {i k : Nat} {fs : List Val} (hf : a.fld i = some fs) (hk : k < fs.length) {v : Val} (hv : a.vok v) :
    CnInv ((a.up v).seto i k v) (fs[k] :: a.regs) ∧ cnPut a i k v = ((a.up v).seto i k v).down fs[k] ∧ CnOk (cnPut a i k v) ∧ (cnPut a i k v).regs = a.regs ∧ (cnPut a i k v).objs.length = a.objs.length := by
  have h1 := (ok.inv.up hv).seto (k := k) (u := fs[k]) (by rw [up_fld]; exact hf) (List.getElem?_eq_getElem hk)
  have e : cnPut a i k v = ((a.up v).seto i k v).down fs[k] := by
    unfold cnPut
    rw [hf, Option.getD_some, List.getD_eq_getElem?_getD, List.getElem?_eq_getElem hk]; rfl
  obtain ⟨h2, h3⟩ := h1.down
  rw [← e] at h2 h3
  have er : (cnPut a i k v).regs = a.regs := h3.r.trans (up_regs a v)
  have el : (cnPut a i k v).objs.length = a.objs.length := h3.n.trans (by show ((a.up v).objs.set i _).length = _; rw [List.length_set, up_objs])
  refine ⟨h1, e, ⟨by rw [er]; exact ok.r8, by rw [er]; exact h2, ?_⟩, er, el⟩
  have h4 := h3.l
  rw [seto_num v (by rw [up_fld]; exact hf), up_num, show ((a.up v).seto i k v).gl = a.gl from up_gl a v] at h4
  have := ok.gb
  rw [el]; omega
theorem push_fld (a : CnA) (n : Nat) (i : Nat) (fs : List Val) : (a.push n).fld i = some fs ↔ a.fld i = some fs ∨ (i = a.objs.length ∧ fs = zeroVs n) := by
  rw [CnA.fld_iff, CnA.fld_iff]
  show (a.objs ++ [some (zeroVs n)])[i]? = _ ↔ _
  by_cases h : i < a.objs.length
  · rw [List.getElem?_append_left h]
    exact ⟨.inl, fun h1 => h1.elim id fun h2 => by omega⟩
  · rw [List.getElem?_append_right (by omega), List.getElem?_eq_none (l := a.objs) (by omega)]
    by_cases e : i = a.objs.length
    · subst e; simp [eq_comm]
    · rw [List.getElem?_eq_none (by simp only [List.length_singleton]; omega)]
      simp [e]
theorem CnOk.push {a : CnA} (ok : CnOk a) {n : Nat} (h4 : n ≤ 4) : CnOk (a.push n) ∧ (a.push n).vok (true, (a.objs.length : Int)) := by
  have hl : (a.push n).objs.length = a.objs.length + 1 := by show (a.objs ++ [_]).length = _; simp
  have hin : ∀ (v : Val), (∃ j : Nat, j < a.objs.length ∧ v.2 = (j : Int)) → ∃ j : Nat, j < (a.push n).objs.length ∧ v.2 = (j : Int) := fun v ⟨j, h1, h2⟩ => ⟨j, by omega, h2⟩
  have hcn : ∀ j, (a.push n).cnt.getD j 0 = if j < a.objs.length then a.cnt.getD j 0 else 0 := fun j => by
    show (a.cnt ++ [0]).getD j 0 = _
    rw [List.getD_eq_getElem?_getD]
    split
    · rename_i h
      rw [List.getElem?_append_left (by rw [ok.inv.cl]; exact h), ← List.getD_eq_getElem?_getD]
    · rename_i h
      rw [List.getElem?_append_right (by rw [ok.inv.cl]; omega)]
      cases h2 : ([0] : List Int)[j - a.cnt.length]? with
      | none => rfl
      | some x =>
        have := List.mem_of_getElem? h2
        rw [List.mem_singleton.1 this]; rfl
  have hz : ∀ j, a.objs.length ≤ j → occ j a.regs = 0 ∧ occO j a.objs = 0 := fun j hj => by
    constructor
    · unfold occ
      rw [List.countP_eq_zero]
      intro v hv hb
      obtain ⟨h1, h2⟩ := refB_eq hb
      obtain ⟨z, h3, h4⟩ := ok.inv.vp v hv h1
      omega
    · unfold occO
      have : ∀ x ∈ a.objs.map fun o => occ j (o.getD []), x = 0 := fun x hx => by
        obtain ⟨o, ho, rfl⟩ := List.mem_map.1 hx
        cases o with
        | none => rfl
        | some fs =>
          obtain ⟨i, hi⟩ := List.mem_iff_getElem?.1 ho
          show occ j fs = 0
          unfold occ
          rw [List.countP_eq_zero]
          intro v hv hb
          obtain ⟨h1, h2⟩ := refB_eq hb
          obtain ⟨z, h3, h4⟩ := ok.inv.vf i fs (CnA.fld_iff.2 hi) v hv h1
          omega
      have gen : ∀ l : List Nat, (∀ x ∈ l, x = 0) → l.sum = 0 := by
        intro l
        induction l with
        | nil => exact fun _ => rfl
        | cons x l ih => exact fun h => by rw [List.sum_cons, h x (List.mem_cons_self ..), ih fun y hy => h y (List.mem_cons_of_mem _ hy)]
      exact gen _ this
  refine ⟨⟨ok.r8, ⟨?_, fun j hj => ?_, fun j hj hn => ?_, fun v hv h1 => hin v (ok.inv.vp v hv h1), fun i fs hf v hv h1 => ?_, fun i fs hf => ?_⟩, ?_⟩, fun _ => ⟨a.objs.length, zeroVs n, rfl, (push_fld a n _ _).2 (.inr ⟨rfl, rfl⟩)⟩⟩
  · rw [hl]
    show (a.cnt ++ [0]).length = _
    rw [List.length_append, ok.inv.cl]; rfl
  · rw [hcn]
    show _ = ((occ j a.regs + occO j (a.objs ++ [some (zeroVs n)]) : Nat) : Int)
    rw [occO_app, occ_zeros]
    split
    · rename_i h
      exact ok.inv.eq j h
    · rename_i h
      obtain ⟨h1, h2⟩ := hz j (by omega)
      omega
  · rw [hcn]
    split
    · rename_i h
      refine ok.inv.th j h ?_
      cases hg : a.fld j with
      | none => rfl
      | some gs => rw [(push_fld a n j gs).2 (.inl hg)] at hn; cases hn
    · rfl
  · rcases (push_fld a n i fs).1 hf with h2 | ⟨_, rfl⟩
    · exact hin v (ok.inv.vf i fs h2 v hv h1)
    · obtain ⟨_, rfl⟩ := List.mem_replicate.1 hv
      cases h1
  · rcases (push_fld a n i fs).1 hf with h2 | ⟨_, rfl⟩
    · exact ok.inv.f4 i fs h2
    · simp only [zeroVs, List.length_replicate]; exact h4
  · have h1 : (a.push n).num = a.num + 1 := someN_app _ _
    have := ok.gb
    rw [h1, hl]
    show a.gl.length + _ ≤ _
    omega
theorem CnOk.new_ {a : CnA} (ok : CnOk a) (R : Int) {n : Nat} (h4 : n ≤ 4) : CnOk (cnNew R a n).1 ∧ ((cnNew R a n).2.2 = 0 → (cnNew R a n).1.vok (true, (cnNew R a n).2.1)) ∧ a.objs.length ≤ (cnNew R a n).1.objs.length ∧ (cnNew R a n).1.objs.length ≤ a.objs.length + 1 := by
  unfold cnNew
  split
  · exact ⟨ok, fun h => (by cases h), Nat.le_refl _, Nat.le_succ _⟩
  · obtain ⟨h1, h2⟩ := ok.push h4
    have hl : (a.push n).objs.length = a.objs.length + 1 := by show (a.objs ++ [_]).length = _; simp
    exact ⟨h1, fun _ => h2, by dsimp only; omega, by dsimp only; omega⟩
theorem CnOk.at_field {a : CnA} (ok : CnOk a) {r at_ : Int} (h : cnErr a (rgA a.regs r) at_ = 0) : ∃ (i k : Nat) (fs : List Val), rgA a.regs r = (true, (i : Int)) ∧ a.fld i = some fs ∧ at_ = (k : Int) ∧ k < fs.length := by
  unfold cnErr at h
  split at h
  · omega
  · rename_i hb
    have hb' : (rgA a.regs r).1 = true := by simpa using hb
    obtain ⟨i, fs, e, hf⟩ := ok.rg r hb'
    split at h
    · omega
    · rename_i h2
      rw [e, Int.toNat_natCast, hf, Option.getD_some] at h2
      obtain ⟨k, rfl⟩ := int_nat (show 0 ≤ at_ from by omega)
      exact ⟨i, k, fs, Prod.ext hb' e, hf, rfl, by omega⟩
theorem CnOk.do_ {a : CnA} (ok : CnOk a) (R : Int) (d : DoV) : CnOk (cnDo R d a).2 ∧ a.objs.length ≤ (cnDo R d a).2.objs.length ∧ (cnDo R d a).2.objs.length ≤ a.objs.length + 1 := by
  unfold cnDo
  by_cases hw : wrongM d ≠ 0
  · rw [if_pos hw]; exact ⟨ok, Nat.le_refl _, Nat.le_succ _⟩
  rw [if_neg hw]
  have hw0 : wrongM d = 0 := by omega
  have hto : d.k ≠ 7 → d.to.toNat < 8 := fun h => by have := wrongM_to hw0 h; omega
  have hsh : ∀ (b : CnA) (v : Val), CnOk b → b.vok v → d.k ≠ 7 → CnOk (b.sh d.to.toNat v) ∧ (b.sh d.to.toNat v).objs.length = b.objs.length := fun b v hb hv h7 => hb.sh (hto h7) hv
  unfold cnKst
  split
  · rename_i h1
    have h4 := wrongM_n hw0 h1
    obtain ⟨n1, n2, n3, n4⟩ := ok.new_ R (n := d.n.toNat) (by omega)
    split
    · exact ⟨n1, n3, n4⟩
    · rename_i hz
      obtain ⟨s1, s2⟩ := hsh _ _ n1 (n2 (by omega)) (by omega)
      exact ⟨s1, by rw [s2]; exact n3, by rw [s2]; exact n4⟩
  split
  · obtain ⟨s1, s2⟩ := hsh a (false, d.n) ok (fun h => by cases h) (by omega)
    exact ⟨s1, by rw [s2]; exact Nat.le_refl _, by rw [s2]; exact Nat.le_succ _⟩
  split
  · obtain ⟨s1, s2⟩ := hsh a _ ok (ok.rg d.fr) (by omega)
    exact ⟨s1, by rw [s2]; exact Nat.le_refl _, by rw [s2]; exact Nat.le_succ _⟩
  split
  · split
    · exact ⟨ok, Nat.le_refl _, Nat.le_succ _⟩
    · rename_i hz
      obtain ⟨i, k, fs, e, hf, e2, hk⟩ := ok.at_field (r := d.to) (at_ := d.at_) (by omega)
      rw [e, e2, Int.toNat_natCast, Int.toNat_natCast]
      obtain ⟨_, _, p1, _, p2⟩ := ok.put hf hk (ok.rg d.fr)
      exact ⟨p1, by rw [p2]; exact Nat.le_refl _, by rw [p2]; exact Nat.le_succ _⟩
  split
  · split
    · exact ⟨ok, Nat.le_refl _, Nat.le_succ _⟩
    · rename_i hz
      obtain ⟨i, k, fs, e, hf, e2, hk⟩ := ok.at_field (r := d.fr) (at_ := d.at_) (by omega)
      rw [e, e2, Int.toNat_natCast, Int.toNat_natCast, hf, Option.getD_some]
      have hv : a.vok (fs.getD k (false, 0)) := by
        rw [List.getD_eq_getElem?_getD, List.getElem?_eq_getElem hk]
        exact ok.inv.vokF hf (List.getElem_mem hk)
      obtain ⟨s1, s2⟩ := hsh a _ ok hv (by omega)
      exact ⟨s1, by rw [s2]; exact Nat.le_refl _, by rw [s2]; exact Nat.le_succ _⟩
  split
  · exact ⟨ok, Nat.le_refl _, Nat.le_succ _⟩
  · exact ⟨ok, Nat.le_refl _, Nat.le_succ _⟩
end Go.Proofs.Ytjphckfbbiehdaa

namespace Go.Proofs.Ytjphckfbbiehdaa
open Go.RowKit

structure CrA where
  σ : MSt
  gone : List Bool
  gl : List Int
def ptsO (j : Nat) (objs : List (List Val)) : Nat := (objs.map (occ j)).sum
def pts (j : Nat) (σ : MSt) : Nat := occ j σ.regs + ptsO j σ.objs
def CrA.mark (t : CrA) (i : Nat) : CrA := { t with gone := t.gone.set i true, gl := t.gl ++ [(i : Int)] }
def CrA.zero (t : CrA) (i k : Nat) : CrA := { t with σ := ⟨t.σ.regs, t.σ.objs.set i ((obA t.σ.objs (i : Int)).set k (false, 0))⟩ }
def loseW (G : CrA → Nat → CrA) (t : CrA) (v : Val) : CrA := if v.1 = false ∨ 0 < pts v.2.toNat t.σ then t else G t v.2.toNat
def goesK (G : CrA → Nat → CrA) (i : Nat) (t : CrA) (k : Nat) : CrA := loseW G (t.zero i k) ((obA t.σ.objs (i : Int)).getD k (false, 0))
def goesN : Nat → CrA → Nat → CrA
  | 0, t, _ => t
  | n + 1, t, i => (List.range' 0 (obA t.σ.objs (i : Int)).length).foldl (goesK (goesN n) i) (t.mark i)
def CrA.ng (t : CrA) : Nat := t.gone.countP fun g => !g
def CrA.lose (t : CrA) (v : Val) : CrA := loseW (goesN t.σ.objs.length) t v

theorem ptsO_set {j : Nat} : ∀ {l : List (List Val)} {i : Nat} (x : List Val) {o : List Val}, l[i]? = some o → ptsO j (l.set i x) + occ j o = ptsO j l + occ j x := by
  intro l
  induction l with
  | nil => intro i x o h; cases h
  | cons p l ih =>
    intro i x o h
    unfold ptsO at ih ⊢
    cases i with
    | zero =>
      have h1 : p = o := by simpa using h
      subst h1
      rw [List.set_cons_zero, List.map_cons, List.map_cons, List.sum_cons, List.sum_cons]
      omega
    | succ i =>
      have h1 : l[i]? = some o := by simpa using h
      have h2 := ih x h1
      rw [List.set_cons_succ, List.map_cons, List.map_cons, List.sum_cons, List.sum_cons]
      omega
theorem ptsO_app (j : Nat) (l : List (List Val)) (fs : List Val) : ptsO j (l ++ [fs]) = ptsO j l + occ j fs := by simp [ptsO]
theorem ptsO_mem {j : Nat} {l : List (List Val)} {i : Nat} {fs : List Val} (h : l[i]? = some fs) : occ j fs ≤ ptsO j l := by
  have h1 := ptsO_set (j := j) [] h
  rw [occ_nil] at h1
  omega
theorem ob_at {l : List (List Val)} {i : Nat} (h : i < l.length) : l[i]? = some (obA l (i : Int)) := by
  unfold obA
  rw [Int.toNat_natCast, List.getD_eq_getElem?_getD, List.getElem?_eq_getElem h]; rfl
/-- What a reference's memory may be. -/
structure CrOk (t : CrA) : Prop where
  lg : t.gone.length = t.σ.objs.length
  m : MOk t.σ
  th : ∀ j : Nat, t.gone[j]? = some true → pts j t.σ = 0
structure CrKp (t u : CrA) : Prop where
  r : u.σ.regs = t.σ.regs
  n : u.σ.objs.length = t.σ.objs.length
  m : u.ng ≤ t.ng
  g : ∀ j : Nat, t.gone[j]? = some true → u.gone[j]? = some true ∧ obA u.σ.objs (j : Int) = obA t.σ.objs (j : Int)
theorem CrKp.refl (t : CrA) : CrKp t t := ⟨rfl, rfl, Nat.le_refl _, fun _ h => ⟨h, rfl⟩⟩
theorem CrKp.trans {a b c : CrA} (h : CrKp a b) (k : CrKp b c) : CrKp a c := ⟨k.r.trans h.r, k.n.trans h.n, Nat.le_trans k.m h.m, fun j hj => by
  obtain ⟨h1, h2⟩ := h.g j hj
  obtain ⟨h3, h4⟩ := k.g j h1
  exact ⟨h3, h4.trans h2⟩⟩
/-- Beside the program's. -/
structure SimC (a : CnA) (t : CrA) : Prop where
  ob : a.objs = maskL t.σ.objs t.gone
  gl : a.gl = t.gl
  lc : a.cnt.length = t.σ.objs.length
  eq : ∀ j : Nat, j < t.σ.objs.length → a.cnt.getD j 0 = (pts j t.σ : Int)
theorem SimC.fld {a : CnA} {t : CrA} (h : SimC a t) (lg : t.gone.length = t.σ.objs.length) (i : Nat) (fs : List Val) : a.fld i = some fs ↔ t.gone[i]? = some false ∧ obA t.σ.objs (i : Int) = fs := by
  rw [CnA.fld_iff, h.ob, maskL_get _ _ lg]
  by_cases hi : i < t.σ.objs.length
  · rw [ob_at hi, Option.map_some, List.getD_eq_getElem?_getD]
    have hg : i < t.gone.length := by omega
    rw [List.getElem?_eq_getElem hg, Option.getD_some]
    cases hx : t.gone[i] <;> simp
  · rw [List.getElem?_eq_none (by omega), List.getElem?_eq_none (l := t.gone) (by omega)]
    simp
/-- There is a program's memory beside each. -/
theorem SimC.exists (t : CrA) : SimC ⟨t.σ.regs, maskL t.σ.objs t.gone, (List.range t.σ.objs.length).map fun j => (pts j t.σ : Int), t.gl⟩ t :=
  ⟨rfl, rfl, by simp, fun j hj => by
    dsimp only
    rw [List.getD_eq_getElem?_getD, List.getElem?_map, List.getElem?_range hj]; rfl⟩
theorem ng_mark {t : CrA} {i : Nat} (h : t.gone[i]? = some false) : (t.mark i).ng + 1 = t.ng := by
  have gen : ∀ (l : List Bool) (i : Nat), l[i]? = some false → (l.set i true).countP (fun g => !g) + 1 = l.countP (fun g => !g) := by
    intro l
    induction l with
    | nil => intro i h; cases h
    | cons b l ih =>
      intro i h
      cases i with
      | zero =>
        have h1 : b = false := by simpa using h
        subst h1
        rw [List.set_cons_zero, List.countP_cons, List.countP_cons]; simp
      | succ i =>
        have h1 := ih i (by simpa using h)
        rw [List.set_cons_succ, List.countP_cons, List.countP_cons]; omega
  exact gen _ _ h
theorem CrOk.mark {t : CrA} (ok : CrOk t) {i : Nat} (h0 : pts i t.σ = 0) : CrOk (t.mark i) :=
  ⟨by show (t.gone.set i true).length = _; rw [List.length_set]; exact ok.lg, ok.m, fun j hj => by
    rw [show (t.mark i).gone = t.gone.set i true from rfl, List.getElem?_set] at hj
    split at hj
    · rename_i e; subst e; exact h0
    · exact ok.th j hj⟩
theorem CrKp.mark {t : CrA} {i : Nat} (h : t.gone[i]? = some false) : CrKp t (t.mark i) :=
  ⟨rfl, rfl, by have := ng_mark h; omega, fun j hj => ⟨by
    show (t.gone.set i true)[j]? = _
    rw [List.getElem?_set]
    split
    · rename_i e; subst e; rw [h] at hj; cases hj
    · exact hj, rfl⟩⟩
theorem SimC.mark {a : CnA} {t : CrA} (h : SimC a t) (lg : t.gone.length = t.σ.objs.length) (i : Nat) : SimC (a.go1 i) (t.mark i) :=
  ⟨by show a.objs.set i none = maskL t.σ.objs (t.gone.set i true); rw [h.ob, maskL_drop _ _ lg], by show a.gl ++ _ = t.gl ++ _; rw [h.gl], h.lc, h.eq⟩
theorem maskL_hid (objs : List (List Val)) (gone : List Bool) (h : gone.length = objs.length) (i : Nat) (hg : gone[i]? = some true) (fs : List Val) : maskL (objs.set i fs) gone = maskL objs gone := by
  refine List.ext_getElem? fun j => ?_
  rw [maskL_get _ _ (by rw [List.length_set]; exact h), List.getElem?_set, maskL_get _ _ h]
  by_cases e : i = j
  · subst e
    rw [if_pos rfl, List.getD_eq_getElem?_getD, hg]
    by_cases hl : i < objs.length
    · rw [if_pos hl, List.getElem?_eq_getElem hl]; rfl
    · rw [if_neg hl, List.getElem?_eq_none (by omega)]
  · rw [if_neg e]
/-- A field of one that went is emptied. -/
theorem cr_zero {t : CrA} (ok : CrOk t) {i : Nat} (hg : t.gone[i]? = some true) {pre l : List Val} {v : Val} (hob : obA t.σ.objs (i : Int) = pre ++ v :: l) :
    CrOk (t.zero i pre.length) ∧ (∀ j, pts j (t.zero i pre.length).σ + (if refB j v = true then 1 else 0) = pts j t.σ) ∧ obA (t.zero i pre.length).σ.objs (i : Int) = pre ++ (false, 0) :: l ∧
    (t.zero i pre.length).σ.objs.length = t.σ.objs.length ∧ (∀ j : Nat, j ≠ i → obA (t.zero i pre.length).σ.objs (j : Int) = obA t.σ.objs (j : Int)) := by
  have hi : i < t.σ.objs.length := by rw [← ok.lg]; exact (List.getElem?_eq_some_iff.1 hg).1
  have hat := ob_at hi
  have hset : (obA t.σ.objs (i : Int)).set pre.length (false, 0) = pre ++ (false, 0) :: l := by rw [hob]; simp
  have hz : (t.zero i pre.length).σ = ⟨t.σ.regs, t.σ.objs.set i (pre ++ (false, 0) :: l)⟩ := by show (⟨_, t.σ.objs.set i _⟩ : MSt) = _; rw [hset]
  have hp : ∀ j, pts j (t.zero i pre.length).σ + (if refB j v = true then 1 else 0) = pts j t.σ := fun j => by
    rw [hz]
    unfold pts
    have h1 := ptsO_set (j := j) (pre ++ (false, 0) :: l) hat
    rw [hob, occ_app, occ_app, occ_cons, occ_cons, show refB j (false, 0) = false from rfl] at h1
    dsimp only
    rw [if_neg (show ¬ (false = true) by simp)] at h1
    omega
  have hlen : (t.zero i pre.length).σ.objs.length = t.σ.objs.length := by rw [hz]; exact List.length_set ..
  refine ⟨⟨by rw [hlen]; exact ok.lg, ?_, fun j hj => by have := hp j; have := ok.th j hj; omega⟩, hp, ?_, hlen, fun j hj => ?_⟩
  · have hv : ValsOk t.σ.objs.length (pre ++ v :: l) := by
      have := (ok.m.ob (i : Int)).1
      rwa [hob] at this
    have hv2 : ValsOk t.σ.objs.length (pre ++ (false, 0) :: l) := fun u hu h1 => by
      rcases List.mem_append.1 hu with h2 | h2
      · exact hv u (List.mem_append_left _ h2) h1
      · rcases List.mem_cons.1 h2 with rfl | h3
        · cases h1
        · exact hv u (List.mem_append_right _ (List.mem_cons_of_mem _ h3)) h1
    have h4 : (pre ++ v :: l).length ≤ 4 := by
      have := (ok.m.ob (i : Int)).2
      rwa [hob] at this
    rw [hz]
    refine ⟨ok.m.r8, ?_, fun fs hf => ?_, fun fs hf => ?_⟩
    · dsimp only; rw [List.length_set]; exact ok.m.vr
    · dsimp only at hf ⊢
      rw [List.length_set]
      rcases mem_set_ hf with h1 | rfl
      · exact ok.m.vo fs h1
      · exact hv2
    · dsimp only at hf
      rcases mem_set_ hf with h1 | rfl
      · exact ok.m.f4 fs h1
      · simp only [List.length_append, List.length_cons] at h4 ⊢; exact h4
  · rw [hz]
    unfold obA
    dsimp only
    rw [Int.toNat_natCast, List.getD_eq_getElem?_getD, List.getElem?_set, if_pos rfl, if_pos hi]; rfl
  · rw [hz]
    unfold obA
    dsimp only
    rw [Int.toNat_natCast, List.getD_eq_getElem?_getD, List.getElem?_set, if_neg (fun e => hj e.symm), ← List.getD_eq_getElem?_getD]
def CnA.decV (a : CnA) (v : Val) : CnA := if v.1 = true then a.dec v else a
theorem decV_obj (a : CnA) (v : Val) : (a.decV v).objs = a.objs ∧ (a.decV v).gl = a.gl ∧ (a.decV v).cnt.length = a.cnt.length ∧ (a.decV v).regs = a.regs := by
  unfold CnA.decV
  split
  · exact ⟨rfl, rfl, List.length_set .., rfl⟩
  · exact ⟨rfl, rfl, rfl, rfl⟩
theorem decV_cnt (a : CnA) {v : Val} (hv : v.1 = true → ∃ z : Nat, v.2 = (z : Int) ∧ z < a.cnt.length) (j : Nat) : (a.decV v).cnt.getD j 0 + (if refB j v = true then 1 else 0) = a.cnt.getD j 0 := by
  unfold CnA.decV
  by_cases hb : v.1 = true
  · rw [if_pos hb]
    obtain ⟨z, e, hz⟩ := hv hb
    unfold CnA.dec
    rw [e, Int.toNat_natCast, add_getD a z (-1) hz]
    have hr : refB j v = decide (j = z) := by unfold refB; rw [hb, e]; simp only [Bool.true_and]; exact decide_eq_decide.2 (by omega)
    rw [hr]
    by_cases ej : j = z
    · rw [if_pos ej, if_pos (by simp [ej])]; omega
    · rw [if_neg ej, if_neg (by simp [ej])]; omega
  · rw [if_neg hb, if_neg (by unfold refB; simp [show v.1 = false by simpa using hb])]; omega
def GoesOk (D : CnA → Nat → CnA) (G : CrA → Nat → CrA) (n : Nat) : Prop := ∀ (a : CnA) (t : CrA) (i : Nat), CrOk t → SimC a t → t.gone[i]? = some false → pts i t.σ = 0 → t.ng ≤ n → CrOk (G t i) ∧ CrKp t (G t i) ∧ SimC (D a i) (G t i)
theorem lose_ok {D : CnA → Nat → CnA} {G : CrA → Nat → CrA} {n : Nat} (hG : GoesOk D G n) {a : CnA} {t : CrA} (ok : CrOk t) {v : Val} (hs : SimC (a.decV v) t) (hv : v.1 = true → ∃ z : Nat, v.2 = (z : Int) ∧ t.gone[z]? = some false) (hn : t.ng ≤ n) :
    CrOk (loseW G t v) ∧ CrKp t (loseW G t v) ∧ SimC (downW D a v) (loseW G t v) := by
  unfold loseW downW
  by_cases hb : v.1 = false
  · rw [if_pos (.inl hb), if_pos hb]
    unfold CnA.decV at hs
    rw [if_neg (by rw [hb]; simp)] at hs
    exact ⟨ok, CrKp.refl t, hs⟩
  · rw [if_neg hb]
    have hb' : v.1 = true := by simpa using hb
    unfold CnA.decV at hs
    rw [if_pos hb'] at hs
    obtain ⟨z, e, hz⟩ := hv hb'
    have hzl : z < t.σ.objs.length := by rw [← ok.lg]; exact (List.getElem?_eq_some_iff.1 hz).1
    rw [e, Int.toNat_natCast]
    have h1 := hs.eq z hzl
    by_cases h0 : 0 < pts z t.σ
    · rw [if_pos (.inr h0), if_neg (by rw [h1]; omega)]
      exact ⟨ok, CrKp.refl t, hs⟩
    · rw [if_neg (fun h => h.elim hb h0), if_pos (by rw [h1]; omega)]
      exact hG _ t z ok hs hz (by omega) hn
theorem goes_loop {D : CnA → Nat → CnA} {G : CrA → Nat → CrA} {n : Nat} (hG : GoesOk D G n) {i : Nat} : ∀ (l pre : List Val) {a : CnA} {t : CrA}, CrOk t → SimC a t → t.gone[i]? = some true → obA t.σ.objs (i : Int) = pre ++ l → t.ng ≤ n →
    CrOk ((List.range' pre.length l.length).foldl (goesK G i) t) ∧ (((List.range' pre.length l.length).foldl (goesK G i) t).ng ≤ t.ng ∧ ((List.range' pre.length l.length).foldl (goesK G i) t).σ.regs = t.σ.regs ∧ ((List.range' pre.length l.length).foldl (goesK G i) t).σ.objs.length = t.σ.objs.length ∧
    ((List.range' pre.length l.length).foldl (goesK G i) t).gone[i]? = some true ∧ ∀ j : Nat, j ≠ i → t.gone[j]? = some true → ((List.range' pre.length l.length).foldl (goesK G i) t).gone[j]? = some true ∧ obA ((List.range' pre.length l.length).foldl (goesK G i) t).σ.objs (j : Int) = obA t.σ.objs (j : Int)) ∧
    SimC (l.foldl (downW D) a) ((List.range' pre.length l.length).foldl (goesK G i) t) := by
  intro l
  induction l with
  | nil => exact fun pre a t ok hs hg hob hn => ⟨ok, ⟨Nat.le_refl _, rfl, rfl, hg, fun j _ hj => ⟨hj, rfl⟩⟩, hs⟩
  | cons v l ih =>
    intro pre a t ok hs hg hob hn
    obtain ⟨k1, k3, k4, k5, k6⟩ := cr_zero ok hg hob
    have hv : v.1 = true → ∃ z : Nat, v.2 = (z : Int) ∧ z < t.σ.objs.length := fun hb => by
      have h1 := (ok.m.ob (i : Int)).1 v (by rw [hob]; simp) hb
      obtain ⟨z, hz⟩ := int_nat h1.1
      exact ⟨z, hz, by omega⟩
    have hv2 : v.1 = true → ∃ z : Nat, v.2 = (z : Int) ∧ (t.zero i pre.length).gone[z]? = some false := fun hb => by
      obtain ⟨z, e, hz⟩ := hv hb
      refine ⟨z, e, ?_⟩
      have h1 := k3 z
      rw [if_pos (refB_self hb e)] at h1
      show t.gone[z]? = some false
      cases h2 : t.gone[z]? with
      | none => rw [List.getElem?_eq_none_iff, ok.lg] at h2; omega
      | some b =>
        cases b
        · rfl
        · have := ok.th z h2; omega
    have hs2 : SimC (a.decV v) (t.zero i pre.length) := by
      obtain ⟨d1, d2, d3, _⟩ := decV_obj a v
      refine ⟨?_, d2.trans hs.gl, by rw [d3, k5]; exact hs.lc, fun j hj => ?_⟩
      · rw [d1, hs.ob]
        show _ = maskL (t.σ.objs.set i _) t.gone
        rw [maskL_hid _ _ ok.lg _ hg]
      · have h1 := decV_cnt a (v := v) (fun hb => by rw [hs.lc]; exact hv hb) j
        have h2 := k3 j
        rw [k5] at hj
        rw [hs.eq j hj] at h1
        split at h1
        · rename_i hr; rw [if_pos hr] at h2; omega
        · rename_i hr; rw [if_neg hr] at h2; omega
    obtain ⟨l1, l2, l3⟩ := lose_ok hG k1 hs2 hv2 hn
    have hbody : goesK G i t pre.length = loseW G (t.zero i pre.length) v := by
      unfold goesK
      rw [hob]
      simp
    have hgi := l2.g i hg
    rw [k4] at hgi
    obtain ⟨m1, ⟨m2, m3, m4, m5, m6⟩, m7⟩ := ih (pre ++ [(false, 0)]) l1 l3 hgi.1 (by rw [hgi.2]; simp) (Nat.le_trans l2.m hn)
    rw [List.length_append, List.length_singleton] at m1 m2 m3 m4 m5 m6 m7
    rw [List.length_cons, List.range'_succ, List.foldl_cons, List.foldl_cons, hbody]
    refine ⟨m1, ⟨Nat.le_trans m2 l2.m, m3.trans l2.r, m4.trans (l2.n.trans k5), m5, fun j hj hjt => ?_⟩, m7⟩
    obtain ⟨p1, p2⟩ := l2.g j hjt
    obtain ⟨p3, p4⟩ := m6 j hj p1
    exact ⟨p3, p4.trans (p2.trans (k6 j hj))⟩
theorem goes_ok : ∀ n, GoesOk (cdropN n) (goesN n) n := by
  intro n
  induction n with
  | zero =>
    intro a t i ok hs hg h0 hn
    have := ng_mark hg
    omega
  | succ n ih =>
    intro a t i ok hs hg h0 hn
    have h1 := ng_mark hg
    have hil : i < t.gone.length := (List.getElem?_eq_some_iff.1 hg).1
    have hgm : (t.mark i).gone[i]? = some true := by show (t.gone.set i true)[i]? = _; rw [List.getElem?_set, if_pos rfl, if_pos hil]
    have hf := (hs.fld ok.lg i (obA t.σ.objs (i : Int))).2 ⟨hg, rfl⟩
    obtain ⟨m1, ⟨m2, m3, m4, m5, m6⟩, m7⟩ := goes_loop ih (obA t.σ.objs (i : Int)) [] (ok.mark h0) (hs.mark ok.lg i) hgm rfl (by omega)
    unfold cdropN goesN
    rw [hf, Option.getD_some]
    refine ⟨m1, ⟨m3, m4, Nat.le_trans m2 (by omega), fun j hj => ?_⟩, m7⟩
    have hne : j ≠ i := by rintro rfl; rw [hg] at hj; cases hj
    exact m6 j hne ((CrKp.mark hg).g j hj).1
end Go.Proofs.Ytjphckfbbiehdaa
