/- Weak references, plain: what is kept; what the program's and the reference's turns keep true. A graph that comes in, opened; its objects' fields lie in slices that are no longer than their room. Weak references: whether a value is alive; the fields that keep. -/
import Derived.Test.YtaajkldhnjoicaaGTrialTells2
import Derived.Test.YtaajkldhnjoicaaGGraphTells10
set_option linter.unusedSimpArgs false
set_option linter.unusedVariables false
namespace Go.Proofs.Ytaajkldhnjoicaa

def ksA (ks : List Int) (i : Nat) : Int := ks.getD i 0
def aliveB (p : Nat → Bool) (v : Val) : Bool := !v.1 || p v.2.toNat
def headAl (p : Nat → Bool) (f : List Val) : Bool := match f with | [] => false | v :: _ => aliveB p v
def keepsB (ks : List Int) (p : Nat → Bool) (i at_ : Nat) (f : List Val) : Bool := decide (ksA ks i = 0) || (decide (ksA ks i = 2) && decide (0 < at_) && headAl p f)
def strongB (ks : List Int) (p : Nat → Bool) (i : Nat) (f : List Val) : List Val := if ksA ks i = 0 then f else if ksA ks i = 2 ∧ headAl p f = true then f.drop 1 else []
theorem strong_mem {ks : List Int} {p : Nat → Bool} {i : Nat} {f : List Val} {v : Val} : v ∈ strongB ks p i f ↔ ∃ at_, f[at_]? = some v ∧ keepsB ks p i at_ f = true := by
  unfold strongB keepsB
  by_cases h0 : ksA ks i = 0
  · rw [if_pos h0, List.mem_iff_getElem?]
    simp [h0]
  · rw [if_neg h0]
    by_cases h2 : ksA ks i = 2 ∧ headAl p f = true
    · rw [if_pos h2, List.mem_iff_getElem?]
      constructor
      · rintro ⟨j, hj⟩
        rw [List.getElem?_drop] at hj
        exact ⟨1 + j, hj, by simp [h2.1, h2.2]; omega⟩
      · rintro ⟨j, hj, hk⟩
        have hj0 : 0 < j := by
          simp [h0, h2.1] at hk
          exact hk.1
        refine ⟨j - 1, ?_⟩
        rw [List.getElem?_drop, show 1 + (j - 1) = j from by omega]
        exact hj
    · rw [if_neg h2]
      constructor
      · intro h; simp at h
      · rintro ⟨j, hj, hk⟩
        simp [h0] at hk
        exact absurd ⟨hk.1.1, hk.2⟩ h2

inductive Kep (gs : List (List Val)) (ks : List Int) (vs : List Val) : Nat → Prop
  | root (x : Nat) : (true, (x : Int)) ∈ vs → Kep gs ks vs x
  | edge (i at_ x : Nat) : Kep gs ks vs i → (fieldsI gs (i : Int))[at_]? = some (true, (x : Int)) → ksA ks i = 0 → Kep gs ks vs x
  | pairN (i at_ x : Nat) (m : Int) : Kep gs ks vs i → (fieldsI gs (i : Int))[at_]? = some (true, (x : Int)) → ksA ks i = 2 → 0 < at_ → (fieldsI gs (i : Int))[0]? = some (false, m) → Kep gs ks vs x
  | pairR (i at_ x y : Nat) : Kep gs ks vs i → (fieldsI gs (i : Int))[at_]? = some (true, (x : Int)) → ksA ks i = 2 → 0 < at_ → (fieldsI gs (i : Int))[0]? = some (true, (y : Int)) → Kep gs ks vs y → Kep gs ks vs x
section
variable {gs : List (List Val)} {ks : List Int} {vs : List Val} {n : Nat} {p : Nat → Bool}
def Sound (gs : List (List Val)) (ks : List Int) (vs : List Val) (n : Nat) (p : Nat → Bool) : Prop := ∀ j, j < n → p j = true → Kep gs ks vs j
theorem Sound.keeps (hp : Sound gs ks vs n p) (hv : ∀ x : Int, ValsOk n (fieldsI gs x)) {i at_ x : Nat} (hi : Kep gs ks vs i) (hx : (fieldsI gs (i : Int))[at_]? = some (true, (x : Int))) (hk : keepsB ks p i at_ (fieldsI gs (i : Int)) = true) : Kep gs ks vs x := by
  unfold keepsB at hk
  by_cases h0 : ksA ks i = 0
  · exact .edge i at_ x hi hx h0
  · simp [h0] at hk
    obtain ⟨⟨h2, h3⟩, h4⟩ := hk
    cases hf : fieldsI gs (i : Int) with
    | nil => rw [hf] at hx; simp at hx
    | cons v t =>
      have hv0 := hv (i : Int)
      rw [hf] at h4 hv0
      obtain ⟨b, m⟩ := v
      cases b with
      | false => exact .pairN i at_ x m hi hx h2 h3 (by rw [hf]; rfl)
      | true =>
        obtain ⟨m0, m1⟩ := hv0 (true, m) (by simp) rfl
        dsimp only at m0 m1
        obtain ⟨y, rfl⟩ := int_nat m0
        have h5 : p y = true := by simpa [headAl, aliveB] using h4
        exact .pairR i at_ x y hi hx h2 h3 (by rw [hf]; rfl) (hp y (by omega) h5)
theorem Sound.strong (hp : Sound gs ks vs n p) (hv : ∀ x : Int, ValsOk n (fieldsI gs x)) {i : Nat} (hi : Kep gs ks vs i) : ∀ y ∈ tgts (strongB ks p i (fieldsI gs (i : Int))), Kep gs ks vs y.toNat := fun y hy => by
  obtain ⟨at_, h1, h2⟩ := strong_mem.1 (tgts_mem.1 hy)
  obtain ⟨m0, m1⟩ := hv (i : Int) (true, y) (List.mem_of_getElem? h1) rfl
  dsimp only at m0 m1
  obtain ⟨z, rfl⟩ := int_nat m0
  exact hp.keeps hv hi h1 h2
theorem strong_ok (hv : ∀ x : Int, ValsOk n (fieldsI gs x)) (i : Nat) : ValsOk n (strongB ks p i (fieldsI gs (i : Int))) := fun v hm => by
  obtain ⟨at_, h1, _⟩ := strong_mem.1 hm
  exact hv (i : Int) v (List.mem_of_getElem? h1)
/-- Nothing more is kept. -/
structure Clo (gs : List (List Val)) (ks : List Int) (vs : List Val) (n : Nat) (p : Nat → Bool) : Prop where
  root : ∀ x : Nat, (true, (x : Int)) ∈ vs → p x = true
  edge : ∀ i, i < n → p i = true → ∀ at_ x : Nat, (fieldsI gs (i : Int))[at_]? = some (true, (x : Int)) → keepsB ks p i at_ (fieldsI gs (i : Int)) = true → p x = true
theorem Clo.kep (hc : Clo gs ks vs n p) (hv : ∀ x : Int, ValsOk n (fieldsI gs x)) (hvs : ValsOk n vs) {j : Nat} (h : Kep gs ks vs j) : j < n ∧ p j = true := by
  have hlt : ∀ i at_ x : Nat, (fieldsI gs (i : Int))[at_]? = some (true, (x : Int)) → x < n := fun i at_ x hx => by
    have h2 := (hv (i : Int) (true, (x : Int)) (List.mem_of_getElem? hx) rfl).2
    dsimp only at h2
    omega
  have hhd : ∀ (i : Nat) (v : Val), (fieldsI gs (i : Int))[0]? = some v → headAl p (fieldsI gs (i : Int)) = aliveB p v := fun i v h0 => by
    cases hf : fieldsI gs (i : Int) with
    | nil => rw [hf] at h0; simp at h0
    | cons a t => rw [hf] at h0; simp at h0; subst h0; rfl
  induction h with
  | root x hx =>
    have h2 := (hvs (true, (x : Int)) hx rfl).2
    dsimp only at h2
    exact ⟨by omega, hc.root x hx⟩
  | edge i at_ x hi hx h0 ih => exact ⟨hlt i at_ x hx, hc.edge i ih.1 ih.2 at_ x hx (by simp [keepsB, h0])⟩
  | pairN i at_ x m hi hx h2 h3 h4 ih => exact ⟨hlt i at_ x hx, hc.edge i ih.1 ih.2 at_ x hx (by unfold keepsB; rw [hhd i _ h4]; simp [h2, h3, aliveB])⟩
  | pairR i at_ x y hi hx h2 h3 h4 hy ih ihy => exact ⟨hlt i at_ x hx, hc.edge i ih.1 ih.2 at_ x hx (by unfold keepsB; rw [hhd i _ h4]; simp [h2, h3, aliveB, ihy.2])⟩
/-- Marks that say what is kept. -/
structure Kpt (gs : List (List Val)) (ks : List Int) (vs : List Val) (n : Nat) (p : Nat → Bool) : Prop where
  snd : Sound gs ks vs n p
  clo : Clo gs ks vs n p
theorem Kpt.same {q : Nat → Bool} (a : Kpt gs ks vs n p) (b : Kpt gs ks vs n q) (hv : ∀ x : Int, ValsOk n (fieldsI gs x)) (hvs : ValsOk n vs) (j : Nat) (hj : j < n) : p j = q j := by
  rw [Bool.eq_iff_iff]
  exact ⟨fun h => (b.clo.kep hv hvs (a.snd j hj h)).2, fun h => (a.clo.kep hv hvs (b.snd j hj h)).2⟩

/-! ### The program's keep. -/
def bp (b : List Bool) : Nat → Bool := fun x => b.getD x false
def un (n : Nat) (b : List Bool) : Int := sumN (fun x => if bp b x = true then 0 else 1) n
theorem un_nonneg (b : List Bool) : 0 ≤ un n b := sumN_nonneg fun x _ => by split <;> omega
theorem un_le (b : List Bool) : un n b ≤ n := by
  have := sumN_le (f := fun x => if bp b x = true then (0 : Int) else 1) (n := n) 1 (fun x _ => by split <;> omega)
  unfold un; omega
theorem un_mono {b b' : List Bool} (h : ∀ x, x < n → bp b x = true → bp b' x = true) : un n b' ≤ un n b := sumN_mono fun x hx => by
  by_cases e : bp b x = true
  · rw [if_pos (h x hx e), if_pos e]; exact Int.le_refl _
  · rw [if_neg e]; split <;> omega
theorem bp_set {b : List Bool} {z : Nat} (hz : z < b.length) (x : Nat) : bp (b.set z true) x = true ↔ bp b x = true ∨ x = z := by
  unfold bp
  rw [bget_set hz]
  split
  · rename_i e; simp [e]
  · rename_i e; simp [e]
theorem un_set {b : List Bool} {z : Nat} (hz : z < b.length) (hzn : z < n) (h : bp b z = false) : un n (b.set z true) = un n b - 1 := by
  unfold un
  rw [sumN_upd (f := fun x => if bp (b.set z true) x = true then (0 : Int) else 1) (g := fun x => if bp b x = true then (0 : Int) else 1) hzn (fun x _ hx => by
    by_cases e : bp b x = true
    · rw [if_pos ((bp_set hz x).2 (.inl e)), if_pos e]
    · rw [if_neg (fun h => ((bp_set hz x).1 h).elim e hx), if_neg e])]
  rw [if_pos ((bp_set hz z).2 (.inr rfl)), if_neg (by rw [h]; simp)]
  omega
theorem un_pos {b : List Bool} {z : Nat} (hzn : z < n) (h : bp b z = false) : 1 ≤ un n b := by
  have := (sumN_pos (f := fun x => if bp b x = true then (0 : Int) else 1) (n := n) (fun x _ => by split <;> omega)).2 ⟨z, hzn, by rw [if_neg (by rw [h]; simp)]; omega⟩
  unfold un; omega
structure KeL (gs : List (List Val)) (ks : List Int) (vs : List Val) (n : Nat) (pre : List Int) (b0 b : List Bool) (more : Bool) : Prop where
  len : b.length = n
  mono : ∀ x, x < n → bp b0 x = true → bp b x = true
  snd : Sound gs ks vs n (bp b)
  seen : ∀ y ∈ pre, bp b y.toNat = true
  no : more = false → b = b0
  yes : more = true → un n b < un n b0
theorem KeL.start {b : List Bool} (hl : b.length = n) (hs : Sound gs ks vs n (bp b)) : KeL gs ks vs n [] b b false :=
  ⟨hl, fun _ _ h => h, hs, by simp, fun _ => rfl, fun h => by cases h⟩
theorem KeL.un_le {pre : List Int} {b0 b : List Bool} {m : Bool} (a : KeL gs ks vs n pre b0 b m) : un n b ≤ un n b0 := un_mono a.mono
theorem KeL.had {pre : List Int} {b0 b : List Bool} {m : Bool} (a : KeL gs ks vs n pre b0 b m) {z : Int} (hz : bp b z.toNat = true) : KeL gs ks vs n (pre ++ [z]) b0 b m :=
  ⟨a.len, a.mono, a.snd, fun y hy => by
    rcases List.mem_append.1 hy with h | h
    · exact a.seen y h
    · rw [show y = z from by simpa using h]; exact hz, a.no, a.yes⟩
theorem KeL.step {pre qre : List Int} {b0 b b2 : List Bool} {m m2 : Bool} (a : KeL gs ks vs n pre b0 b m) {z : Nat} (hz : z < n) (hzb : bp b z = false) (hpre : ∀ y ∈ pre, 0 ≤ y ∧ y < (n : Int)) (c : KeL gs ks vs n qre (b.set z true) b2 m2) : KeL gs ks vs n (pre ++ [(z : Int)]) b0 b2 true := by
  have hzl : z < b.length := by rw [a.len]; exact hz
  have hm : ∀ x, x < n → bp b x = true → bp b2 x = true := fun x hx h => c.mono x hx ((bp_set hzl x).2 (.inl h))
  refine ⟨c.len, fun x hx h => hm x hx (a.mono x hx h), c.snd, fun y hy => ?_, (fun h => by cases h), fun _ => ?_⟩
  · rcases List.mem_append.1 hy with h | h
    · have := hpre y h; exact hm _ (by omega) (a.seen y h)
    · rw [show y = (z : Int) from by simpa using h]
      exact c.mono z hz ((bp_set hzl z).2 (.inr rfl))
  · have h1 := c.un_le
    have h2 := a.un_le
    rw [un_set hzl hz hzb] at h1
    omega
theorem Sound.set_ {b : List Bool} {z : Nat} (h : Sound gs ks vs n (bp b)) (hz : z < b.length) (hk : Kep gs ks vs z) : Sound gs ks vs n (bp (b.set z true)) := fun j hj hb => by
  rcases (bp_set hz j).1 hb with h1 | rfl
  · exact h j hj h1
  · exact hk
/-- The turns over all objects: in this turn so many have been seen. -/
structure OpI (gs : List (List Val)) (ks : List Int) (vs : List Val) (n k : Nat) (bT b : List Bool) (more : Bool) : Prop where
  len : b.length = n
  snd : Sound gs ks vs n (bp b)
  root : ∀ x : Nat, (true, (x : Int)) ∈ vs → bp b x = true
  le : un n b ≤ un n bT
  no : more = false → b = bT ∧ ∀ i, i < k → bp b i = true → ∀ y ∈ tgts (strongB ks (bp b) i (fieldsI gs (i : Int))), bp b y.toNat = true
  yes : more = true → un n b < un n bT
theorem OpI.turn {b : List Bool} (hl : b.length = n) (hs : Sound gs ks vs n (bp b)) (hr : ∀ x : Nat, (true, (x : Int)) ∈ vs → bp b x = true) : OpI gs ks vs n 0 b b false :=
  ⟨hl, hs, hr, Int.le_refl _, fun _ => ⟨rfl, fun i hi => by omega⟩, fun h => by cases h⟩
theorem OpI.skip {k : Nat} {bT b : List Bool} {m : Bool} (a : OpI gs ks vs n k bT b m) (h : bp b k = false) : OpI gs ks vs n (k + 1) bT b m :=
  ⟨a.len, a.snd, a.root, a.le, fun hm => ⟨(a.no hm).1, fun i hi hb => by
    by_cases e : i = k
    · subst e; rw [h] at hb; cases hb
    · exact (a.no hm).2 i (by omega) hb⟩, a.yes⟩
theorem OpI.step {k : Nat} {bT b b2 : List Bool} {m m2 : Bool} (a : OpI gs ks vs n k bT b m) (hvs : ValsOk n vs) (c : KeL gs ks vs n (tgts (strongB ks (bp b) k (fieldsI gs (k : Int)))) b b2 m2) : OpI gs ks vs n (k + 1) bT b2 (m || m2) := by
  have h1 := c.un_le
  have h2 := a.le
  refine ⟨c.len, c.snd, fun x hx => ?_, by omega, fun hm => ?_, fun hm => ?_⟩
  · have h3 := (hvs (true, (x : Int)) hx rfl).2
    dsimp only at h3
    exact c.mono x (by omega) (a.root x hx)
  · obtain ⟨h3, h4⟩ := Bool.or_eq_false_iff.1 hm
    have h5 := c.no h4
    obtain ⟨h6, h7⟩ := a.no h3
    subst h5
    refine ⟨h6, fun i hi hb => ?_⟩
    by_cases e : i = k
    · subst e; exact c.seen
    · exact h7 i (by omega) hb
  · rcases (Bool.or_eq_true_iff).1 hm with h3 | h3
    · have := a.yes h3; omega
    · have := c.yes h3; omega
theorem OpI.done {bT b : List Bool} (a : OpI gs ks vs n n bT b false) : Kpt gs ks vs n (bp b) := ⟨a.snd, a.root, fun i hi hb at_ x hx hk => (a.no rfl).2 i hi hb (x : Int) (tgts_mem.2 (strong_mem.2 ⟨at_, hx, hk⟩))⟩

/-! ### The reference's turns. -/
structure RfI (gs : List (List Val)) (ks : List Int) (vs : List Val) (n t : Nat) (b : List Bool) : Prop where
  len : b.length = n
  snd : Sound gs ks vs n (bp b)
  root : ∀ x : Nat, (true, (x : Int)) ∈ vs → bp b x = true
  way : Clo gs ks vs n (bp b) ∨ un n b + (t : Int) ≤ (n : Int)
/-- In turn t so many objects, and of the next so many fields. -/
structure RfJ (gs : List (List Val)) (ks : List Int) (vs : List Val) (n t i k : Nat) (b : List Bool) : Prop where
  len : b.length = n
  snd : Sound gs ks vs n (bp b)
  root : ∀ x : Nat, (true, (x : Int)) ∈ vs → bp b x = true
  way : Clo gs ks vs n (bp b) ∨ ((∀ j, j < n → bp b j = true → ∀ at_ x : Nat, (j < i ∨ j = i ∧ at_ < k) → (fieldsI gs (j : Int))[at_]? = some (true, (x : Int)) → keepsB ks (bp b) j at_ (fieldsI gs (j : Int)) = true → bp b x = true) ∧ un n b + (t : Int) ≤ (n : Int)) ∨ un n b + (t : Int) + 1 ≤ (n : Int)
theorem RfI.in_ {t : Nat} {b : List Bool} (h : RfI gs ks vs n t b) : RfJ gs ks vs n t 0 0 b :=
  ⟨h.len, h.snd, h.root, h.way.elim .inl fun h => .inr (.inl ⟨fun j _ _ at_ x hj => by omega, h⟩)⟩
theorem RfJ.next {t i : Nat} {b : List Bool} (h : RfJ gs ks vs n t i (fieldsI gs (i : Int)).length b) : RfJ gs ks vs n t (i + 1) 0 b :=
  ⟨h.len, h.snd, h.root, h.way.imp id (Or.imp (fun ⟨h1, h2⟩ => ⟨fun j hj hb at_ x hd hx => h1 j hj hb at_ x (by
    by_cases e : j = i
    · subst e; exact .inr ⟨rfl, (List.getElem?_eq_some_iff.1 hx).1⟩
    · exact .inl (by omega)) hx, h2⟩) id)⟩
theorem RfJ.out {t : Nat} {b : List Bool} (h : RfJ gs ks vs n t n 0 b) : RfI gs ks vs n (t + 1) b :=
  ⟨h.len, h.snd, h.root, by
    rcases h.way with h1 | ⟨h1, h2⟩ | h1
    · exact .inl h1
    · exact .inl ⟨h.root, fun i hi hb at_ x hx hk => h1 i hi hb at_ x (.inl hi) hx hk⟩
    · exact .inr (by omega)⟩
theorem RfJ.skip {t i k : Nat} {b : List Bool} (h : RfJ gs ks vs n t i k b) (hs : bp b i = true → ∀ x : Nat, (fieldsI gs (i : Int))[k]? = some (true, (x : Int)) → keepsB ks (bp b) i k (fieldsI gs (i : Int)) = true → bp b x = true) : RfJ gs ks vs n t i (k + 1) b :=
  ⟨h.len, h.snd, h.root, h.way.imp id (Or.imp (fun ⟨h1, h2⟩ => ⟨fun j hj hb at_ x hd hx hk => by
    by_cases e : j = i ∧ at_ = k
    · obtain ⟨rfl, rfl⟩ := e; exact hs hb x hx hk
    · exact h1 j hj hb at_ x (by omega) hx hk, h2⟩) id)⟩
theorem RfJ.mark {t i k z : Nat} {b : List Bool} (h : RfJ gs ks vs n t i k b) (hv : ∀ x : Int, ValsOk n (fieldsI gs x)) (hi : i < n) (hb : bp b i = true) (hz : (fieldsI gs (i : Int))[k]? = some (true, (z : Int))) (hk : keepsB ks (bp b) i k (fieldsI gs (i : Int)) = true) : RfJ gs ks vs n t i (k + 1) (b.set z true) := by
  have hzn : z < n := by
    have h3 := (hv (i : Int) (true, (z : Int)) (List.mem_of_getElem? hz) rfl).2
    dsimp only at h3
    omega
  have hzl : z < b.length := by rw [h.len]; exact hzn
  by_cases hzb : bp b z = true
  · have e : b.set z true = b := by
      refine List.ext_getElem? fun x => ?_
      rw [List.getElem?_set]
      by_cases e : z = x
      · subst e
        rw [if_pos rfl, if_pos hzl]
        unfold bp at hzb
        rw [List.getD_eq_getElem?_getD, List.getElem?_eq_getElem hzl] at hzb
        rw [List.getElem?_eq_getElem hzl]
        exact congrArg some hzb.symm
      · rw [if_neg e]
    rw [e]
    exact h.skip fun _ x hx _ => by
      rw [hz] at hx
      obtain rfl : z = x := by injection hx with hx; injection hx with _ hx; omega
      exact hzb
  · have hzf : bp b z = false := by simpa using hzb
    refine ⟨by rw [List.length_set]; exact h.len, h.snd.set_ hzl (h.snd.keeps hv (h.snd i hi hb) hz hk), fun x hx => (bp_set hzl x).2 (.inl (h.root x hx)), ?_⟩
    rw [un_set hzl hzn hzf]
    rcases h.way with h1 | ⟨h1, h2⟩ | h1
    · exact absurd (h1.edge i hi hb k z hz hk) hzb
    · exact .inr (.inr (by omega))
    · exact .inr (.inr (by omega))
theorem RfI.start {b : List Bool} (hl : b.length = n) (hvs : ValsOk n vs) (h : ∀ x : Nat, x < n → (bp b x = true ↔ (true, (x : Int)) ∈ vs)) : RfI gs ks vs n 0 b :=
  ⟨hl, fun j hj hb => .root j ((h j hj).1 hb), fun x hx => (h x (by
    have h3 := (hvs (true, (x : Int)) hx rfl).2
    dsimp only at h3
    omega)).2 hx, .inr (by have := un_le (n := n) b; omega)⟩
theorem RfI.done {b : List Bool} (h : RfI gs ks vs n n b) (hv : ∀ x : Int, ValsOk n (fieldsI gs x)) : Kpt gs ks vs n (bp b) := by
  refine ⟨h.snd, ?_⟩
  rcases h.way with h1 | h1
  · exact h1
  · refine ⟨h.root, fun i hi hb at_ x hx hk => ?_⟩
    have h3 := (hv (i : Int) (true, (x : Int)) (List.mem_of_getElem? hx) rfl).2
    dsimp only at h3
    cases e : bp b x
    · have := un_pos (n := n) (b := b) (z := x) (by omega) e; omega
    · rfl

/-! ### What is cleared. -/
def clearV (ks : List Int) (p : Nat → Bool) (i : Nat) (f : List Val) (v : Val) : Val := if (ksA ks i = 1 ∧ aliveB p v = false) ∨ (ksA ks i = 2 ∧ headAl p f = false) then (false, 0) else v
def clearF (ks : List Int) (p : Nat → Bool) (i : Nat) (f : List Val) : List Val := f.map (clearV ks p i f)
end
end Go.Proofs.Ytaajkldhnjoicaa

namespace Go.Proofs.Ytaajkldhnjoicaa
open Go.ChangeShapes Go.WideShapes Go.Deep Go.RowKit

def Caps (obs : List Ob) : Prop := ∀ o ∈ obs, o.n ≤ o.c ∧ (o.A = none → o.c = 0)
section
variable {H : Type} {enc : TypeId × Value → H} {P : Program} {w : World} {base : Nat} {spare : Nat → Bool} {held : Bool}
theorem trod_valsC {t e : TypeId} {f0 f1 : Field} {fuel : Nat} {cs : List Value} {x : DataW H × List MemPlace} (ht : P.underlying t = some (.slice e)) (he : P.underlying e = some (.struct #[f0, f1])) (hone : oneCellFields P #[f0, f1] = true) (hC : P.cellsOf e = 2)
    (i0 : P.underlying f0.type = some .bool) (i1 : P.underlying f1.type = some (.int .i64)) (h : DataW.trod enc P w base spare held fuel t cs = some x) :
    ∃ (A : Option Addr) (n c : Nat) (l : List Val), cs = [.slice A n c] ∧ (n ≤ c ∧ (A = none → c = 0)) ∧ Rd w (fun _ => True) 2 A n (vals l) := by
  obtain ⟨A, n, c, l, e1, _, hr⟩ := trod_vals ht he hone hC i0 i1 h
  refine ⟨A, n, c, l, e1, ?_, hr⟩
  rcases open_slice ht h with ⟨h0, _⟩ | ⟨a, n', c', m, n0, D, Pl, h0, _, hl, hm, hmm, _, hx⟩
  · rw [e1] at h0
    simp at h0
    exact ⟨by omega, fun _ => h0.2.2⟩
  · rw [e1] at h0
    simp at h0
    exact ⟨by omega, fun h => by rw [h] at h0; simp at h0⟩
theorem trod_objsC {t e tf te : TypeId} {f f0 f1 : Field} {fuel : Nat} {cs : List Value} {x : DataW H × List MemPlace} (ht : P.underlying t = some (.slice e)) (he : P.underlying e = some (.struct #[f])) (hone1 : oneCellFields P #[f] = true) (hC1 : P.cellsOf e = 1) (hft : f.type = tf)
    (htf : P.underlying tf = some (.slice te)) (hte : P.underlying te = some (.struct #[f0, f1])) (hone : oneCellFields P #[f0, f1] = true) (hC : P.cellsOf te = 2)
    (i0 : P.underlying f0.type = some .bool) (i1 : P.underlying f1.type = some (.int .i64)) (h : DataW.trod enc P w base spare held fuel t cs = some x) :
    ∃ (A : Option Addr) (n c : Nat) (l : List Ob), cs = [.slice A n c] ∧ n ≤ 9223372036854775807 ∧ ObsRd w (fun _ => True) A n l ∧ Caps l := by
  rcases open_slice1 ht hC1 h with ⟨h0, _⟩ | ⟨a, n, c, m, n0, V, D, Pl, rfl, _, hl, hm, hmm, _, hx⟩
  · exact ⟨none, 0, 0, [], h0, by omega, ⟨Rd.nil, fun o ho => by cases ho⟩, fun o ho => by cases ho⟩
  · have hle : n ≤ m := by rw [hmm]; split <;> omega
    have hmx : c ≤ 9223372036854775807 := by simpa [maxLen] using hm
    have key : ∀ i, i < n → ∃ o : Ob, w.cell? (a.add i) = some o.val ∧ Rd w (fun _ => True) 2 o.A o.n (vals o.fields) ∧ (o.n ≤ o.c ∧ (o.A = none → o.c = 0)) := by
      intro i hi'
      obtain ⟨h1, h2⟩ := hx i (by omega)
      obtain ⟨y0, n', _, _, hj0⟩ := trod_struct1 he h2
      obtain ⟨o0, k0⟩ := hone_of hone1 0 f rfl
      rw [o0, k0, hft] at hj0
      obtain ⟨A', n1, c1, l1, e1, hnc, hr⟩ := trod_valsC htf hte hone hC i0 i1 hj0
      refine ⟨⟨A', n1, c1, l1⟩, ?_, hr, hnc⟩
      have e2 := congrArg (fun l => l[0]?) e1
      have e3 : V i = .slice A' n1 c1 := by simpa using e2
      rw [h1, e3]; rfl
    haveI : Inhabited Ob := ⟨⟨none, 0, 0, []⟩⟩
    obtain ⟨g, hg⟩ := choose_lt key
    refine ⟨some a, n, c, (List.range n).map g, rfl, by omega, ⟨⟨by simp, fun hn => ⟨a, rfl, trivial, ?_, ?_⟩⟩, fun o ho => ?_⟩, fun o ho => ?_⟩
    · have := block_lt_ (hg 0 hn).1
      simpa [block_of_add] using this
    · intro j u hu
      simp only [List.getElem?_map] at hu
      rcases Nat.lt_or_ge j n with hq | hq
      case inr => rw [List.getElem?_eq_none (by simp; omega)] at hu; cases hu
      rw [List.getElem?_range hq] at hu
      simp at hu
      subst hu
      exact (hg j hq).1
    · obtain ⟨j, hj, rfl⟩ := List.mem_map.1 ho
      exact (hg j (List.mem_range.1 hj)).2.1
    · obtain ⟨j, hj, rfl⟩ := List.mem_map.1 ho
      exact (hg j (List.mem_range.1 hj)).2.2
end
end Go.Proofs.Ytaajkldhnjoicaa

namespace Go.Proofs.Ytaajkldhnjoicaa
open Go.RowKit

def wkIt (gb n : Nat) (bs : List Bool) : Item := rowI 4 1 (some ⟨gb, 0, none⟩) n n (bls bs)
theorem wkIt_fp {gb n : Nat} {bs : List Bool} {k : Nat} : (wkIt gb n bs).fp k ↔ k = gb := by
  simp only [wkIt, rowI, Value.ownBlock]
  constructor
  · intro h; simpa using h.symm
  · intro h; simp [h]
def wkCells (gb : Nat) (AO AR AK : Option Addr) (nO cO nR cR cK : Nat) : Array Value := #[.slice AO nO cO, .slice AR nR cR, .slice AK nO cK, .slice (some ⟨gb, 0, none⟩) nO nO]
/-- What is known of a keeper's memory. -/
structure WkM (Bt gb : Nat) (AO AR AK : Option Addr) (nO cO nR cR cK : Nat) (obs : List Ob) (ks : List Int) (w : World) : Prop where
  o : ObsRd w (fun k => k ≠ gb) AO nO obs
  k : Rd w (fun k => k ≠ gb) 1 AK nO (ints ks)
  b : Blk w Bt 175 (wkCells gb AO AR AK nO cO nR cR cK)
  n : Bt ≠ gb
theorem WkM.chg {Bt gb : Nat} {AO AR AK : Option Addr} {nO cO nR cR cK : Nat} {obs : List Ob} {ks : List Int} {w w' : World} {F : Nat → Prop} (a : WkM Bt gb AO AR AK nO cO nR cR cK obs ks w) (hc : Chg F w w') (hF : ∀ k, F k → k = gb) : WkM Bt gb AO AR AK nO cO nR cR cK obs ks w' :=
  ⟨a.o.chg hc (fun g hg hd => hd (hF g hg)), a.k.chg hc (fun g hg hd => hd (hF g hg)), a.b.chg hc (fun h => a.n (hF _ h)), a.n⟩
theorem WkM.below {Bt gb : Nat} {AO AR AK : Option Addr} {nO cO nR cR cK : Nat} {obs : List Ob} {ks : List Int} {w w' : World} (a : WkM Bt gb AO AR AK nO cO nR cR cK obs ks w) (hc : Below w.heap.size w w') : WkM Bt gb AO AR AK nO cO nR cR cK obs ks w' :=
  a.chg (F := fun _ => False) (Chg.of_below hc _) (fun _ h => h.elim)

set_option maxRecDepth 100000 in
set_option maxHeartbeats 4000000 in
theorem alivP_any (w : World) (Bt gb : Nat) (AO AR AK : Option Addr) (nO cO nR cR cK : Nat) (obs : List Ob) (ks : List Int) (bs : List Bool) (v : Val) (hM : WkM Bt gb AO AR AK nO cO nR cR cK obs ks w) (hP : (wkIt gb nO bs).P w) (hn : nO ≤ 24) (hv : v.1 = true → 0 ≤ v.2 ∧ v.2 < (nO : Int)) :
    Calls Try.prog 105 #[.pointer (some ⟨Bt, 0, none⟩), .agg #[.bool v.1, .int .i64 v.2]] w fun e w' => e = .returned (.bool (aliveB (bp bs) v)) ∧ Below w.heap.size w w' := by
  obtain ⟨b, m⟩ := v
  dsimp only at hv
  have hS0 := (Sep.start hP).blkAt 86 #[.bool b, .int .i64 m] (g := w.heap.size) rfl
  have hB0 : Below w.heap.size w (w.alloc (.cells #[.bool b, .int .i64 m] 86)) := (Below.refl _ w).alloc (Nat.le_refl _) _
  obtain ⟨c1, c2, c3⟩ := (hM.below hB0).b.rules
  have c4 := (c1 3).trans (show _ = some (.slice (some ⟨gb, 0, none⟩) nO nO) from rfl)
  obtain ⟨b1, b2, b3, b4⟩ := hS0.rules 1 (g := w.heap.size) (t := 86) rfl
  have b5 := (b1 0).trans (show _ = some (.bool b) from rfl)
  have b6 := (b1 1).trans (show _ = some (.int .i64 m) from rfl)
  have HB := hide hB0
  cases b with
  | false =>
    clear c1 b1 b4 hS0 hP hM hB0
    go_enter Try.func105, Try.ntmps105
    go_wp2_with fail
    go_quiet (fail)
    go_wp2_with fail
    go_ret
    exact ⟨rfl, below_drewN HB.out _⟩
  | true =>
    obtain ⟨m0, m1⟩ := hv rfl
    obtain ⟨z, rfl⟩ := int_nat m0
    have hz : z < nO := by omega
    obtain ⟨f1, f2⟩ := bls_cellAt (hS0.get 0 rfl) z hz
    have HY := hide (show aliveB (bp bs) (true, (z : Int)) = bs.getD z false from by simp [aliveB, bp])
    obtain ⟨y, hy⟩ : ∃ y, bs.getD z false = y := ⟨_, rfl⟩
    rw [hy] at f1 HY
    clear c1 b1 b4 hS0 hP hM hB0 hy
    go_enter Try.func105, Try.ntmps105
    go_wp2_with fail
    go_quiet (fail)
    go_wp2_with fail
    go_ret
    exact ⟨by rw [HY.out] <;> rfl, below_drewN HB.out _⟩

theorem vals_drop1 (l : List Val) : (vals l).drop (1 * 2) = vals (l.drop 1) := by
  cases l with
  | nil => rfl
  | cons a t => simp [vals]
def KsOk (n : Nat) (ks : List Int) : Prop := ks.length = n ∧ ∀ x ∈ ks, x = 0 ∨ x = 1 ∨ x = 2
set_option maxRecDepth 100000 in
set_option maxHeartbeats 8000000 in
theorem strong_any (w : World) (Bt gb : Nat) (AO AR AK : Option Addr) (nO cO nR cR cK : Nat) (obs : List Ob) (ks : List Int) (bs : List Bool) (i : Nat) (gs : List (List Val)) (h3 : obs.map Ob.fields = gs) (hfl : ∀ o ∈ obs, o.n ≤ 4) (hcp : Caps obs) (hM : WkM Bt gb AO AR AK nO cO nR cR cK obs ks w) (hP : (wkIt gb nO bs).P w) (hn : nO ≤ 24) (hi : i < nO) (hk : ks.length = nO) (hv : ∀ x : Int, ValsOk nO (fieldsI gs x)) :
    Calls Try.prog 136 #[.pointer (some ⟨Bt, 0, none⟩), .int .i64 i] w fun e w' => ∃ A m c, e = .returned (.slice A m c) ∧ m ≤ 4 ∧ Rd w' (fun k => k ≠ gb) 2 A m (vals (strongB ks (bp bs) i (fieldsI gs (i : Int)))) ∧ Below w.heap.size w w' := by
  obtain ⟨c1, c2, c3⟩ := hM.b.rules
  have c4 := (c1 0).trans (show _ = some (.slice AO nO cO) from rfl)
  have c5 := (c1 2).trans (show _ = some (.slice AK nO cK) from rfl)
  have hil : i < obs.length := by rw [hM.o.len]; exact hi
  obtain ⟨ad, hAO, _, had, hc⟩ := hM.o.row.at_ hi
  have e0 := hc obs[i].val (by simp [List.getElem?_eq_getElem hil])
  have hrd := hM.o.each _ (List.getElem_mem hil)
  have hofl := hM.o.flen (List.getElem_mem hil)
  have ho4 := hfl _ (List.getElem_mem hil)
  have hoc := (hcp _ (List.getElem_mem hil)).1
  have hfi : fieldsI gs (i : Int) = obs[i].fields := by
    unfold fieldsI
    rw [← h3, List.getD_eq_getElem?_getD]
    simp [List.getElem?_eq_getElem hil]
  have hvo := hv (i : Int)
  obtain ⟨o, ho⟩ : ∃ o, obs[i] = o := ⟨_, rfl⟩
  rw [hfi] at hvo ⊢
  rw [ho] at e0 hrd hofl ho4 hoc hvo ⊢
  unfold Ob.val at e0
  obtain ⟨kd, hAK, _, hkd, hkc⟩ := hM.k.at_ hi
  have hkl : i < ks.length := by rw [hk]; exact hi
  have e1 := hkc _ (ints_get' ks i hkl)
  have hka : ksA ks i = ks[i] := by unfold ksA; rw [List.getD_eq_getElem?_getD, List.getElem?_eq_getElem hkl]; rfl
  obtain ⟨kv, hkv⟩ : ∃ kv, ks[i] = kv := ⟨_, rfl⟩
  rw [hkv] at e1 hka
  have HM := hide hM
  have HP := hide hP
  have HRD := hide hrd
  have HOFL := hide hofl
  subst hAO hAK
  by_cases h0 : kv = 0
  · subst h0
    have HS := hide (show strongB ks (bp bs) i o.fields = o.fields from by unfold strongB; rw [if_pos hka])
    clear hM hP hrd hofl hc hfi hvo ho hkc hka hkv c1
    go_enter Try.func136, Try.ntmps136
    go_wp2_with fail
    go_ret
    exact ⟨_, _, _, rfl, ho4, by rw [HS.out]; exact HRD.out, Below.refl _ _⟩
  · have k0 : (kv == 0) = false := by simp [h0]
    by_cases h2 : kv = 2
    · subst h2
      by_cases hz : o.n = 0
      · have HS := hide (show strongB ks (bp bs) i o.fields = [] from by
          unfold strongB
          rw [List.eq_nil_of_length_eq_zero (l := o.fields) (by rw [hofl]; exact hz)]
          rw [if_neg (by rw [hka]; omega)]
          simp [headAl])
        rw [hz] at e0
        clear hM hP hrd hofl hc hfi hvo ho hkc hka hkv c1
        go_enter Try.func136, Try.ntmps136
        go_wp2_with fail
        go_ret
        exact ⟨_, _, _, rfl, by omega, by rw [HS.out]; exact Rd.nil, Below.refl _ _⟩
      · have hnl : 0 < o.fields.length := by rw [hofl]; omega
        obtain ⟨fd, hA, _, hfd, hc3, hd3⟩ := hrd.atN (k := 0) (by omega)
        obtain ⟨v0, v1⟩ := vals_at o.fields 0 hnl
        have e2 := hc3 _ v0
        have e3 := hd3 0 _ v1
        rw [show fd.add (0 * 2) = fd from by simp [Addr.add]] at e2 e3
        have hvv := hvo _ (List.getElem_mem hnl)
        obtain ⟨v, hv0⟩ : ∃ v, o.fields[0] = v := ⟨_, rfl⟩
        rw [hv0] at e2 e3 hvv
        have hhd : headAl (bp bs) o.fields = aliveB (bp bs) v := by
          cases hf : o.fields with
          | nil => rw [hf] at hnl; simp at hnl
          | cons a t => simp [hf] at hv0; subst hv0; rfl
        have HS := hide (show strongB ks (bp bs) i o.fields = if aliveB (bp bs) v = true then o.fields.drop 1 else [] from by
          unfold strongB
          rw [if_neg (by rw [hka]; omega), hka, hhd]
          simp)
        have C := hide (alivP_any w Bt gb (some ad) AR (some kd) nO cO nR cR cK obs ks bs v hM hP hn hvv)
        obtain ⟨b, hb⟩ : ∃ b, aliveB (bp bs) v = b := ⟨_, rfl⟩
        rw [hb] at C HS
        obtain ⟨bv, m⟩ := v
        dsimp only at e2 e3 C
        have hlt : (0 : Int) < (o.n : Int) := by omega
        have hlt2 : 0 < o.n := by omega
        rw [hA] at e0
        have HA := hide hA
        clear hM hP hrd hofl hc hfi hvo ho hkc hka hkv c1 hc3 hd3 v0 v1 hhd hb hv0 hvv hA hnl
        cases b with
        | false =>
          go_enter Try.func136, Try.ntmps136
          go_wp2_with fail
          refine C.out.mono ?_
          rintro e w5 ⟨rfl, hb5⟩
          go_wp2_with fail
          go_ret
          exact ⟨_, _, _, rfl, by omega, by rw [HS.out]; exact Rd.nil, hb5⟩
        | true =>
          have hcut := hide ((HRD.out.cut (k := 1) (cap := o.c) (by omega) hoc))
          have w1 : (1 : Int) ≤ (o.n : Int) := by omega
          have w2 : o.n ≤ o.c := hoc
          have w3 : 1 ≤ o.n := by omega
          have e6 : (vals o.fields).drop (1 * 2) = vals (o.fields.drop 1) := vals_drop1 _
          rw [e6] at hcut
          by_cases hc1 : o.c = 1
          · have HCUT := hide (show Rd w (fun k => k ≠ gb) 2 (some fd) (o.n - 1) (vals (o.fields.drop 1)) from by
              have h := hcut
              rw [if_pos hc1, HA.out] at h
              exact h)
            clear hcut e6
            go_enter Try.func136, Try.ntmps136
            go_wp2_with fail
            refine C.out.mono ?_
            rintro e w5 ⟨rfl, hb5⟩
            go_wp2_with fail
            go_ret
            exact ⟨_, _, _, rfl, by omega, by rw [HS.out]; exact HCUT.out.below hb5, hb5⟩
          · have HCUT := hide (show Rd w (fun k => k ≠ gb) 2 (some (fd.add 2)) (o.n - 1) (vals (o.fields.drop 1)) from by
              have h := hcut
              rw [if_neg hc1, HA.out] at h
              exact h)
            clear hcut e6
            go_enter Try.func136, Try.ntmps136
            go_wp2_with fail
            refine C.out.mono ?_
            rintro e w5 ⟨rfl, hb5⟩
            go_wp2_with fail
            go_ret
            exact ⟨_, _, _, rfl, by omega, by rw [HS.out]; exact HCUT.out.below hb5, hb5⟩
    · have k2 : (kv == 2) = false := by simp [h2]
      have HS := hide (show strongB ks (bp bs) i o.fields = [] from by
        unfold strongB
        rw [if_neg (by rw [hka]; exact h0), if_neg (by rw [hka]; exact fun h => h2 h.1)])
      clear hM hP hrd hofl hc hfi hvo ho hkc hka hkv c1
      go_enter Try.func136, Try.ntmps136
      go_wp2_with fail
      go_ret
      exact ⟨_, _, _, rfl, by omega, by rw [HS.out]; exact Rd.nil, Below.refl _ _⟩
end Go.Proofs.Ytaajkldhnjoicaa
