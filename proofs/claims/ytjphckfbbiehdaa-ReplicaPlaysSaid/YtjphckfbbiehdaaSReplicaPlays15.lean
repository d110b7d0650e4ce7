/- A memory that counts, plain: one reference more, one fewer; an object goes; what the counts say. -/
import Derived.Test.YtjphckfbbiehdaaSReplicaPlays13
import Derived.Test.YtjphckfbbiehdaaSReplicaPlays14
set_option linter.unusedSimpArgs false
set_option linter.unusedVariables false
namespace Go.Proofs.Ytjphckfbbiehdaa
structure CnA where
  regs : List Val
  objs : List (Option (List Val))
  cnt : List Int
  gl : List Int
def CnA.fld (a : CnA) (i : Nat) : Option (List Val) := (a.objs[i]?).getD none
def CnA.vok (a : CnA) (v : Val) : Prop := v.1 = true → ∃ (i : Nat) (fs : List Val), v.2 = (i : Int) ∧ a.fld i = some fs
def CnA.add (a : CnA) (z : Nat) (x : Int) : CnA := { a with cnt := a.cnt.set z (a.cnt.getD z 0 + x) }
def CnA.up (a : CnA) (v : Val) : CnA := if v.1 = true then a.add v.2.toNat 1 else a
def CnA.dec (a : CnA) (v : Val) : CnA := a.add v.2.toNat (-1)
def CnA.go1 (a : CnA) (i : Nat) : CnA := { a with objs := a.objs.set i none, gl := a.gl ++ [(i : Int)] }
def downW (D : CnA → Nat → CnA) (a : CnA) (v : Val) : CnA :=
  if v.1 = false then a else if (a.dec v).cnt.getD v.2.toNat 0 = 0 then D (a.dec v) v.2.toNat else a.dec v
def cdropN : Nat → CnA → Nat → CnA
  | 0, a, _ => a
  | n + 1, a, i => ((a.fld i).getD []).foldl (downW (cdropN n)) (a.go1 i)
def someN {α : Type} (l : List (Option α)) : Nat := (l.filter Option.isSome).length
def CnA.num (a : CnA) : Nat := someN a.objs
def CnA.down (a : CnA) (v : Val) : CnA := downW (cdropN a.objs.length) a v
theorem CnA.fld_iff {a : CnA} {i : Nat} {fs : List Val} : a.fld i = some fs ↔ a.objs[i]? = some (some fs) := by
  unfold CnA.fld
  cases h : a.objs[i]? with
  | none => simp
  | some o => cases o <;> simp
theorem CnA.fld_lt {a : CnA} {i : Nat} {fs : List Val} (h : a.fld i = some fs) : i < a.objs.length := (List.getElem?_eq_some_iff.1 (CnA.fld_iff.1 h)).1
theorem someN_le {α : Type} (l : List (Option α)) : someN l ≤ l.length := List.length_filter_le ..
theorem someN_set {α : Type} : ∀ {l : List (Option α)} {i : Nat} {x : α}, l[i]? = some (some x) → someN (l.set i none) + 1 = someN l := by
  intro l
  induction l with
  | nil => intro i x h; cases h
  | cons o l ih =>
    intro i x h
    cases i with
    | zero =>
      have h1 : o = some x := by simpa using h
      subst h1
      simp [someN]
    | succ i =>
      have h1 : l[i]? = some (some x) := by simpa using h
      have h2 := ih h1
      unfold someN at h2 ⊢
      rw [List.set_cons_succ, List.filter_cons, List.filter_cons]
      split
      · simp only [List.length_cons]; omega
      · exact h2
theorem someN_app {α : Type} (l : List (Option α)) (x : α) : someN (l ++ [some x]) = someN l + 1 := by simp [someN, List.filter_append]
theorem someN_put {α : Type} : ∀ {l : List (Option α)} {i : Nat} {x : α} (y : α), l[i]? = some (some x) → someN (l.set i (some y)) = someN l := by
  intro l
  induction l with
  | nil => intro i x y h; cases h
  | cons o l ih =>
    intro i x y h
    cases i with
    | zero =>
      have h1 : o = some x := by simpa using h
      subst h1
      simp [someN]
    | succ i =>
      have h1 : l[i]? = some (some x) := by simpa using h
      have h2 := ih y h1
      unfold someN at h2 ⊢
      rw [List.set_cons_succ, List.filter_cons, List.filter_cons]
      split
      · simp only [List.length_cons]; omega
      · exact h2
/-! ### How often an object is referred to. -/
def refB (j : Nat) (v : Val) : Bool := v.1 && decide (v.2 = (j : Int))
def occ (j : Nat) (l : List Val) : Nat := l.countP (refB j)
def occO (j : Nat) (objs : List (Option (List Val))) : Nat := (objs.map fun o => occ j (o.getD [])).sum
theorem occ_cons (j : Nat) (v : Val) (l : List Val) : occ j (v :: l) = occ j l + if refB j v = true then 1 else 0 := by unfold occ; rw [List.countP_cons]
theorem occ_app (j : Nat) (l m : List Val) : occ j (l ++ m) = occ j l + occ j m := by unfold occ; rw [List.countP_append]
theorem occ_nil (j : Nat) : occ j [] = 0 := rfl
theorem occ_set {j : Nat} : ∀ {l : List Val} {k : Nat} (v : Val) {u : Val}, l[k]? = some u → occ j (l.set k v) + (if refB j u = true then 1 else 0) = occ j l + if refB j v = true then 1 else 0 := by
  intro l
  induction l with
  | nil => intro k v u h; cases h
  | cons x l ih =>
    intro k v u h
    cases k with
    | zero =>
      have h1 : x = u := by simpa using h
      subst h1
      rw [List.set_cons_zero, occ_cons, occ_cons]
      omega
    | succ k =>
      have h1 : l[k]? = some u := by simpa using h
      have h2 := ih v h1
      rw [List.set_cons_succ, occ_cons, occ_cons]
      omega
theorem occ_mem {j : Nat} {l : List Val} {v : Val} (h : v ∈ l) (hv : refB j v = true) : 1 ≤ occ j l := List.countP_pos_iff.2 ⟨v, h, hv⟩
theorem refB_self {v : Val} {j : Nat} (h : v.1 = true) (h2 : v.2 = (j : Int)) : refB j v = true := by unfold refB; rw [h, h2]; simp
theorem refB_eq {v : Val} {j : Nat} (h : refB j v = true) : v.1 = true ∧ v.2 = (j : Int) := by
  unfold refB at h
  simpa using h
theorem occO_set {j : Nat} : ∀ {l : List (Option (List Val))} {i : Nat} (x : Option (List Val)) {o : Option (List Val)}, l[i]? = some o → occO j (l.set i x) + occ j (o.getD []) = occO j l + occ j (x.getD []) := by
  intro l
  induction l with
  | nil => intro i x o h; cases h
  | cons p l ih =>
    intro i x o h
    unfold occO at ih ⊢
    cases i with
    | zero =>
      have h1 : p = o := by simpa using h
      subst h1
      rw [List.set_cons_zero, List.map_cons, List.map_cons, List.sum_cons, List.sum_cons]
      omega
    | succ i =>
      have h1 : l[i]? = some o := by simpa using h
      have h2 := ih x h1
      rw [List.set_cons_succ, List.map_cons, List.map_cons, List.sum_cons, List.sum_cons]
      omega
theorem occO_app (j : Nat) (l : List (Option (List Val))) (fs : List Val) : occO j (l ++ [some fs]) = occO j l + occ j fs := by simp [occO]
theorem occO_mem {j : Nat} {l : List (Option (List Val))} {i : Nat} {fs : List Val} (h : l[i]? = some (some fs)) : occ j fs ≤ occO j l := by
  have h1 := occO_set (j := j) none h
  simp only [Option.getD_some, Option.getD_none, occ_nil] at h1
  omega
theorem occ_zeros (j n : Nat) : occ j (zeroVs n) = 0 := by
  unfold occ zeroVs
  rw [List.countP_eq_zero]
  intro v hv
  obtain ⟨_, rfl⟩ := List.mem_replicate.1 hv
  simp [refB]
/-! ### What the counts say: all references, those that stand somewhere and those (P) that are held beside. -/
structure CnInv (a : CnA) (P : List Val) : Prop where
  cl : a.cnt.length = a.objs.length
  eq : ∀ j : Nat, j < a.objs.length → a.cnt.getD j 0 = ((occ j P + occO j a.objs : Nat) : Int)
  th : ∀ j, j < a.objs.length → a.fld j = none → a.cnt.getD j 0 = 0
  vp : ∀ v ∈ P, v.1 = true → ∃ j : Nat, j < a.objs.length ∧ v.2 = (j : Int)
  vf : ∀ i fs, a.fld i = some fs → ∀ v ∈ fs, v.1 = true → ∃ j : Nat, j < a.objs.length ∧ v.2 = (j : Int)
  f4 : ∀ i fs, a.fld i = some fs → fs.length ≤ 4
theorem CnInv.congr {a : CnA} {P Q : List Val} (h : CnInv a P) (h1 : ∀ j, occ j Q = occ j P) (h2 : ∀ v ∈ Q, v.1 = true → ∃ j : Nat, j < a.objs.length ∧ v.2 = (j : Int)) : CnInv a Q :=
  ⟨h.cl, fun j hj => by rw [h.eq j hj, h1], h.th, h2, h.vf, h.f4⟩
theorem CnInv.perm {a : CnA} {P Q : List Val} (h : CnInv a P) (hp : Q.Perm P) : CnInv a Q :=
  h.congr (fun j => hp.countP_eq _) fun v hv => h.vp v (hp.mem_iff.1 hv)
theorem CnInv.off {a : CnA} {P : List Val} {v : Val} (h : CnInv a (v :: P)) (hv : v.1 = false) : CnInv a P :=
  h.congr (fun j => by rw [occ_cons, if_neg (by unfold refB; simp [hv])]; rfl) fun u hu => h.vp u (List.mem_cons_of_mem _ hu)
theorem CnInv.on {a : CnA} {P : List Val} {v : Val} (h : CnInv a P) (hv : v.1 = false) : CnInv a (v :: P) :=
  h.congr (fun j => by rw [occ_cons, if_neg (by unfold refB; simp [hv])]; rfl) fun u hu h1 => by
    rcases List.mem_cons.1 hu with rfl | h2
    · rw [hv] at h1; cases h1
    · exact h.vp u h2 h1
theorem CnInv.pos {a : CnA} {P : List Val} (h : CnInv a P) {j : Nat} (hj : j < a.objs.length) (h1 : 1 ≤ occ j P + occO j a.objs) : ∃ fs, a.fld j = some fs := by
  cases hf : a.fld j with
  | some fs => exact ⟨fs, rfl⟩
  | none =>
    have h2 := h.th j hj hf
    rw [h.eq j hj] at h2
    omega
theorem CnInv.vokP {a : CnA} {P : List Val} (h : CnInv a P) {v : Val} (hv : v ∈ P) : a.vok v := fun h1 => by
  obtain ⟨j, hj, e⟩ := h.vp v hv h1
  have h2 := occ_mem hv (refB_self h1 e)
  obtain ⟨fs, hf⟩ := h.pos hj (by omega)
  exact ⟨j, fs, e, hf⟩
theorem CnInv.vokF {a : CnA} {P : List Val} (h : CnInv a P) {i : Nat} {gs : List Val} {v : Val} (hg : a.fld i = some gs) (hv : v ∈ gs) : a.vok v := fun h1 => by
  obtain ⟨j, hj, e⟩ := h.vf i gs hg v hv h1
  have h2 := occ_mem hv (refB_self h1 e)
  have h3 := occO_mem (j := j) (CnA.fld_iff.1 hg)
  obtain ⟨fs, hf⟩ := h.pos hj (by omega)
  exact ⟨j, fs, e, hf⟩
theorem add_getD (a : CnA) (z : Nat) (x : Int) (hz : z < a.cnt.length) (j : Nat) : (a.add z x).cnt.getD j 0 = a.cnt.getD j 0 + if j = z then x else 0 := by
  unfold CnA.add
  dsimp only
  rw [List.getD_eq_getElem?_getD, List.getElem?_set]
  by_cases e : z = j
  · subst e
    rw [if_pos rfl, if_pos hz, if_pos rfl]; rfl
  · rw [if_neg e, if_neg (fun h => e h.symm), ← List.getD_eq_getElem?_getD]; omega
theorem CnInv.up {a : CnA} {P : List Val} (h : CnInv a P) {v : Val} (hv : a.vok v) : CnInv (a.up v) (v :: P) := by
  unfold CnA.up
  by_cases hb : v.1 = true
  · rw [if_pos hb]
    obtain ⟨z, fs, e, hf⟩ := hv hb
    have hz := CnA.fld_lt hf
    rw [e, Int.toNat_natCast]
    have hg := add_getD a z 1 (by rw [h.cl]; exact hz)
    have hr : ∀ j, refB j v = decide (j = z) := fun j => by unfold refB; rw [hb, e]; simp only [Bool.true_and]; exact decide_eq_decide.2 (by omega)
    refine ⟨by show (a.cnt.set _ _).length = _; rw [List.length_set]; exact h.cl, fun j hj => ?_, fun j hj hn => ?_, fun u hu h1 => ?_, h.vf, h.f4⟩
    · rw [hg, h.eq j hj, occ_cons, hr]
      show _ = ((_ + occO j a.objs : Nat) : Int)
      by_cases ej : j = z
      · rw [if_pos ej, if_pos (by simp [ej])]; omega
      · rw [if_neg ej, if_neg (by simp [ej])]; omega
    · rw [hg]
      by_cases ej : j = z
      · subst ej
        rw [show (a.add j 1).fld j = a.fld j from rfl, hf] at hn; cases hn
      · rw [if_neg ej, h.th j hj hn]; rfl
    · rcases List.mem_cons.1 hu with rfl | h2
      · exact ⟨z, hz, e⟩
      · exact h.vp u h2 h1
  · rw [if_neg hb]
    exact h.on (by simpa using hb)
theorem CnInv.dec {a : CnA} {P : List Val} {v : Val} (h : CnInv a (v :: P)) (hb : v.1 = true) : CnInv (a.dec v) P := by
  obtain ⟨z, fs, e, hf⟩ := h.vokP (List.mem_cons_self ..) hb
  have hz := CnA.fld_lt hf
  unfold CnA.dec
  rw [e, Int.toNat_natCast]
  have hg := add_getD a z (-1) (by rw [h.cl]; exact hz)
  have hr : ∀ j, refB j v = decide (j = z) := fun j => by unfold refB; rw [hb, e]; simp only [Bool.true_and]; exact decide_eq_decide.2 (by omega)
  refine ⟨by show (a.cnt.set _ _).length = _; rw [List.length_set]; exact h.cl, fun j hj => ?_, fun j hj hn => ?_, fun u hu h1 => h.vp u (List.mem_cons_of_mem _ hu) h1, h.vf, h.f4⟩
  · rw [hg, h.eq j hj, occ_cons, hr]
    show _ = ((_ + occO j a.objs : Nat) : Int)
    by_cases ej : j = z
    · rw [if_pos ej, if_pos (by simp [ej])]; omega
    · rw [if_neg ej, if_neg (by simp [ej])]; omega
  · rw [hg]
    by_cases ej : j = z
    · subst ej
      rw [show (a.add j (-1)).fld j = a.fld j from rfl, hf] at hn; cases hn
    · rw [if_neg ej, h.th j hj hn]; rfl
theorem go1_fld (a : CnA) (i : Nat) (j : Nat) (gs : List Val) : (a.go1 i).fld j = some gs ↔ j ≠ i ∧ a.fld j = some gs := by
  rw [CnA.fld_iff, CnA.fld_iff]
  show (a.objs.set i none)[j]? = _ ↔ _
  rw [List.getElem?_set]
  by_cases e : i = j
  · subst e
    rw [if_pos rfl]
    split <;> simp
  · rw [if_neg e]
    exact ⟨fun h => ⟨fun h1 => e h1.symm, h⟩, fun h => h.2⟩
theorem CnInv.go1 {a : CnA} {P : List Val} (h : CnInv a P) {i : Nat} {fs : List Val} (hf : a.fld i = some fs) (hc : a.cnt.getD i 0 = 0) : CnInv (a.go1 i) (fs ++ P) := by
  have hl : (a.go1 i).objs.length = a.objs.length := List.length_set ..
  refine ⟨by rw [hl]; exact h.cl, fun j hj => ?_, fun j hj hn => ?_, fun v hv h1 => ?_, fun j gs hg v hv h1 => ?_, fun j gs hg => h.f4 j gs ((go1_fld a i j gs).1 hg).2⟩
  · rw [hl] at hj
    show a.cnt.getD j 0 = _
    rw [h.eq j hj, occ_app]
    have h2 := occO_set (j := j) none (CnA.fld_iff.1 hf)
    simp only [Option.getD_some, Option.getD_none, occ_nil] at h2
    show _ = ((_ + occO j (a.objs.set i none) : Nat) : Int)
    omega
  · rw [hl] at hj
    show a.cnt.getD j 0 = 0
    by_cases e : j = i
    · rw [e]; exact hc
    · refine h.th j hj ?_
      cases hg : a.fld j with
      | none => rfl
      | some gs => rw [(go1_fld a i j gs).2 ⟨e, hg⟩] at hn; cases hn
  · rw [hl]
    rcases List.mem_append.1 hv with h2 | h2
    · exact h.vf i fs hf v h2 h1
    · exact h.vp v h2 h1
  · rw [hl]
    exact h.vf j gs ((go1_fld a i j gs).1 hg).2 v hv h1
/-- What stays as it is while objects go. -/
structure CnKp (a b : CnA) : Prop where
  r : b.regs = a.regs
  n : b.objs.length = a.objs.length
  m : b.num ≤ a.num
  l : b.gl.length + b.num ≤ a.gl.length + a.num
  f : ∀ i fs, b.fld i = some fs → a.fld i = some fs
theorem CnKp.refl (a : CnA) : CnKp a a := ⟨rfl, rfl, Nat.le_refl _, Nat.le_refl _, fun _ _ h => h⟩
theorem CnKp.trans {a b c : CnA} (h : CnKp a b) (k : CnKp b c) : CnKp a c := ⟨k.r.trans h.r, k.n.trans h.n, Nat.le_trans k.m h.m, Nat.le_trans k.l h.l, fun i fs hf => h.f i fs (k.f i fs hf)⟩
theorem go1_num {a : CnA} {i : Nat} {fs : List Val} (hf : a.fld i = some fs) : (a.go1 i).num + 1 = a.num := someN_set (CnA.fld_iff.1 hf)
theorem CnKp.go1 {a : CnA} {i : Nat} {fs : List Val} (hf : a.fld i = some fs) : CnKp a (a.go1 i) :=
  ⟨rfl, List.length_set .., by have := go1_num hf; omega, by have := go1_num hf; show (a.gl ++ [_]).length + _ ≤ _; rw [List.length_append, List.length_singleton]; omega, fun j gs h => ((go1_fld a i j gs).1 h).2⟩
theorem CnKp.dec (a : CnA) (v : Val) : CnKp a (a.dec v) := ⟨rfl, rfl, Nat.le_refl _, Nat.le_refl _, fun _ _ h => h⟩
def DropOk (D : CnA → Nat → CnA) (n : Nat) : Prop := ∀ (a : CnA) (P : List Val) (i : Nat) (fs : List Val), CnInv a P → a.fld i = some fs → a.cnt.getD i 0 = 0 → a.num ≤ n → CnInv (D a i) P ∧ CnKp a (D a i)
theorem CnInv.downW {D : CnA → Nat → CnA} {n : Nat} (hD : DropOk D n) {a : CnA} {P : List Val} {v : Val} (h : CnInv a (v :: P)) (hn : a.num ≤ n) : CnInv (downW D a v) P ∧ CnKp a (Go.Proofs.Ytjphckfbbiehdaa.downW D a v) := by
  unfold Go.Proofs.Ytjphckfbbiehdaa.downW
  by_cases hb : v.1 = false
  · rw [if_pos hb]; exact ⟨h.off hb, CnKp.refl a⟩
  · rw [if_neg hb]
    have hb' : v.1 = true := by simpa using hb
    have h1 := h.dec hb'
    obtain ⟨z, fs, e, hf⟩ := h.vokP (List.mem_cons_self ..) hb'
    split
    · rename_i hc
      rw [e, Int.toNat_natCast] at hc
      obtain ⟨k1, k2⟩ := hD _ P z fs h1 hf hc hn
      rw [e, Int.toNat_natCast]
      exact ⟨k1, (CnKp.dec a v).trans k2⟩
    · exact ⟨h1, CnKp.dec a v⟩
theorem CnInv.downs {D : CnA → Nat → CnA} {n : Nat} (hD : DropOk D n) : ∀ (l : List Val) {a : CnA} {P : List Val}, CnInv a (l ++ P) → a.num ≤ n → CnInv (l.foldl (Go.Proofs.Ytjphckfbbiehdaa.downW D) a) P ∧ CnKp a (l.foldl (Go.Proofs.Ytjphckfbbiehdaa.downW D) a) := by
  intro l
  induction l with
  | nil => exact fun h _ => ⟨h, CnKp.refl _⟩
  | cons v l ih =>
    intro a P h hn
    obtain ⟨k1, k2⟩ := CnInv.downW hD (P := l ++ P) h hn
    obtain ⟨k3, k4⟩ := ih k1 (Nat.le_trans k2.m hn)
    exact ⟨k3, k2.trans k4⟩
theorem cdrop_ok : ∀ n, DropOk (cdropN n) n := by
  intro n
  induction n with
  | zero =>
    intro a P i fs h hf hc hn
    have := go1_num hf
    omega
  | succ n ih =>
    intro a P i fs h hf hc hn
    have h1 := go1_num hf
    unfold cdropN
    rw [hf, Option.getD_some]
    obtain ⟨k1, k2⟩ := CnInv.downs ih fs (h.go1 hf hc) (by omega)
    exact ⟨k1, (CnKp.go1 hf).trans k2⟩
theorem CnInv.down {a : CnA} {P : List Val} {v : Val} (h : CnInv a (v :: P)) : CnInv (a.down v) P ∧ CnKp a (a.down v) :=
  CnInv.downW (cdrop_ok _) h (someN_le _)
end Go.Proofs.Ytjphckfbbiehdaa
