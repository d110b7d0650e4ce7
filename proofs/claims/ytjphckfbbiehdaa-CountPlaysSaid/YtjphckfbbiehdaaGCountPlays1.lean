/- A memory that counts, plain: a deed, a script: both tell the same. A memory that counts, plain: how it begins, a script, what is told in the end. A memory that counts: what it has in memory; one reference more. -/
import Derived.Test.YtjphckfbbiehdaaGCountPlays0
import Derived.Test.YtjphckfbbiehdaaGTriPlays0
import Derived.Test.YtjphckfbbiehdaaGTriPlays7
set_option linter.unusedSimpArgs false
set_option linter.unusedVariables false
namespace Go.Proofs.Ytjphckfbbiehdaa
open Go.RowKit

def crOld (d : DoV) (σ : MSt) : Val := if d.k = 1 ∨ d.k = 2 ∨ d.k = 3 ∨ d.k = 5 then rgA σ.regs d.to else if d.k = 4 then (obA σ.objs (rgA σ.regs d.to).2).getD d.at_.toNat (false, 0) else (false, 0)
def crErr (R : Int) (d : DoV) (t : CrA) : Int := if rWrong d t.σ = 0 ∧ d.k = 1 ∧ R ≤ (t.ng : Int) then 6 else rWrong d t.σ
def CrA.do_ (t : CrA) (d : DoV) : CrA := ⟨(stepK d t.σ).2, goneD d t.gone, t.gl⟩
def crStep (R : Int) (d : DoV) (t : CrA) : OutV × CrA := if crErr R d t ≠ 0 then (⟨crErr R d t, false, 0⟩, t) else ((stepK d t.σ).1, (t.do_ d).lose (crOld d t.σ))

structure CnSim (a : CnA) (t : CrA) : Prop where
  s : SimC a t
  r : a.regs = t.σ.regs
  ok : CrOk t
theorem CnSim.n {a : CnA} {t : CrA} (h : CnSim a t) : a.objs.length = t.σ.objs.length := by rw [h.s.ob, maskL_len _ _ h.ok.lg]
theorem CnSim.num {a : CnA} {t : CrA} (h : CnSim a t) : a.num = t.ng := by
  unfold CnA.num CrA.ng
  rw [h.s.ob]
  have gen : ∀ (objs : List (List Val)) (gone : List Bool), gone.length = objs.length → someN (maskL objs gone) = gone.countP fun g => !g := by
    intro objs
    induction objs with
    | nil => intro gone hl; rw [List.eq_nil_of_length_eq_zero hl]; rfl
    | cons o objs ih =>
      intro gone hl
      cases gone with
      | nil => cases hl
      | cons g gone =>
        have h1 := ih gone (by simpa using hl)
        unfold someN maskL at h1 ⊢
        rw [List.zipWith_cons_cons, List.filter_cons, List.countP_cons]
        cases g
        · simp [h1]
        · simp [h1]
  exact gen _ _ h.ok.lg
theorem CnSim.there {a : CnA} {t : CrA} (h : CnSim a t) {v : Val} (hv : a.vok v) : v.1 = true → ∃ z : Nat, v.2 = (z : Int) ∧ t.gone[z]? = some false := fun hb => by
  obtain ⟨z, fs, e, hf⟩ := hv hb
  exact ⟨z, e, ((h.s.fld h.ok.lg z fs).1 hf).1⟩
theorem up_cnt (a : CnA) {v : Val} (hv : v.1 = true → ∃ z : Nat, v.2 = (z : Int) ∧ z < a.cnt.length) (j : Nat) : (a.up v).cnt.getD j 0 = a.cnt.getD j 0 + (if refB j v = true then 1 else 0) ∧ (a.up v).cnt.length = a.cnt.length ∧ (a.up v).gl = a.gl := by
  unfold CnA.up
  by_cases hb : v.1 = true
  · rw [if_pos hb]
    obtain ⟨z, e, hz⟩ := hv hb
    rw [e, Int.toNat_natCast, add_getD a z 1 hz]
    have hr : refB j v = decide (j = z) := by unfold refB; rw [hb, e]; simp only [Bool.true_and]; exact decide_eq_decide.2 (by omega)
    rw [hr]
    refine ⟨?_, List.length_set .., rfl⟩
    by_cases ej : j = z
    · rw [if_pos ej, if_pos (by simp [ej])]
    · rw [if_neg ej, if_neg (by simp [ej])]
  · rw [if_neg hb, if_neg (by unfold refB; simp [show v.1 = false by simpa using hb])]
    exact ⟨by omega, rfl, rfl⟩
/-- One reference comes to stand where another stood. -/
theorem CnSim.rep {a : CnA} {t : CrA} (h : CnSim a t) {u v : Val} {σ' : MSt} {b : CnA} (hm : MOk σ') (hl : σ'.objs.length = t.σ.objs.length)
    (hp : ∀ j, pts j σ' + (if refB j u = true then 1 else 0) = pts j t.σ + (if refB j v = true then 1 else 0))
    (hv : v.1 = true → ∃ z : Nat, v.2 = (z : Int) ∧ t.gone[z]? = some false) (hu : u.1 = true → ∃ z : Nat, u.2 = (z : Int) ∧ z < t.σ.objs.length ∧ 1 ≤ pts z t.σ)
    (hb : b.objs = maskL σ'.objs t.gone) (hgl : b.gl = t.gl) (hc : b.cnt = (a.up v).cnt) :
    CrOk ((⟨σ', t.gone, t.gl⟩ : CrA).lose u) ∧ CrKp ⟨σ', t.gone, t.gl⟩ ((⟨σ', t.gone, t.gl⟩ : CrA).lose u) ∧ SimC (b.down u) ((⟨σ', t.gone, t.gl⟩ : CrA).lose u) := by
  have hlg : t.gone.length = σ'.objs.length := by rw [hl]; exact h.ok.lg
  have hvl : v.1 = true → ∃ z : Nat, v.2 = (z : Int) ∧ z < a.cnt.length := fun hb => by
    obtain ⟨z, e, hz⟩ := hv hb
    have := (List.getElem?_eq_some_iff.1 hz).1
    exact ⟨z, e, by rw [h.s.lc, ← h.ok.lg]; exact this⟩
  have hup := up_cnt a hvl
  have hcl : b.cnt.length = σ'.objs.length := by rw [hc, (hup 0).2.1, h.s.lc, hl]
  have hul : u.1 = true → ∃ z : Nat, u.2 = (z : Int) ∧ z < b.cnt.length := fun hb => by
    obtain ⟨z, e, hz, _⟩ := hu hb
    exact ⟨z, e, by rw [hcl, hl]; exact hz⟩
  have hok : CrOk ⟨σ', t.gone, t.gl⟩ := ⟨hlg, hm, fun j hj => by
    have h1 := hp j
    have h2 := h.ok.th j hj
    by_cases hr : refB j v = true
    · obtain ⟨e1, e2⟩ := refB_eq hr
      obtain ⟨z, e3, hz⟩ := hv e1
      have : z = j := by omega
      subst this
      rw [show t.gone[z]? = some true from hj] at hz
      cases hz
    · rw [if_neg hr] at h1
      show pts j σ' = 0
      omega⟩
  have hs : SimC (b.decV u) ⟨σ', t.gone, t.gl⟩ := by
    obtain ⟨d1, d2, d3, _⟩ := decV_obj b u
    refine ⟨d1.trans hb, d2.trans hgl, d3.trans hcl, fun j hj => ?_⟩
    have h1 := decV_cnt b hul j
    have h2 := hp j
    have h3 := (hup j).1
    have h4 := h.s.eq j (by rw [← hl]; exact hj)
    rw [hc] at h1
    show _ = (pts j σ' : Int)
    have e1 : (if refB j u = true then (1 : Int) else 0) = ((if refB j u = true then 1 else 0 : Nat) : Int) := by split <;> rfl
    have e2 : (if refB j v = true then (1 : Int) else 0) = ((if refB j v = true then 1 else 0 : Nat) : Int) := by split <;> rfl
    rw [e1] at h1
    rw [e2] at h3
    omega
  have hbl : b.objs.length = σ'.objs.length := by rw [hb, maskL_len _ _ hlg]
  have hng : (⟨σ', t.gone, t.gl⟩ : CrA).ng ≤ σ'.objs.length := by
    have : t.gone.countP (fun g => !g) ≤ t.gone.length := List.countP_le_length
    show t.gone.countP _ ≤ _
    omega
  have := lose_ok (goes_ok σ'.objs.length) hok hs (fun hb => by
    obtain ⟨z, e, hz, h1⟩ := hu hb
    refine ⟨z, e, ?_⟩
    show t.gone[z]? = some false
    cases h2 : t.gone[z]? with
    | none => rw [List.getElem?_eq_none_iff, h.ok.lg] at h2; omega
    | some b =>
      cases b
      · rfl
      · have := h.ok.th z h2; omega) hng
  unfold CnA.down
  rw [hbl]
  exact this
theorem downW_regs {D : CnA → Nat → CnA} (hD : ∀ a i, (D a i).regs = a.regs) (a : CnA) (v : Val) : (downW D a v).regs = a.regs := by
  unfold downW
  split
  · rfl
  · split
    · rw [hD]; rfl
    · rfl
theorem cdropN_regs : ∀ n a i, (cdropN n a i).regs = a.regs := by
  intro n
  induction n with
  | zero => exact fun _ _ => rfl
  | succ n ih =>
    intro a i
    unfold cdropN
    have gen : ∀ (l : List Val) (b : CnA), (l.foldl (downW (cdropN n)) b).regs = b.regs := by
      intro l
      induction l with
      | nil => exact fun _ => rfl
      | cons v l ih2 => intro b; rw [List.foldl_cons, ih2, downW_regs ih]
    rw [gen]; rfl
theorem down_regs (a : CnA) (v : Val) : (a.down v).regs = a.regs := downW_regs (cdropN_regs _) a v
theorem mok_pos {σ : MSt} {v : Val} {l : List Val} (hl : ValsOk σ.objs.length l) (hv : v ∈ l) (hle : ∀ j, occ j l ≤ pts j σ) : v.1 = true → ∃ z : Nat, v.2 = (z : Int) ∧ z < σ.objs.length ∧ 1 ≤ pts z σ := fun hb => by
  have h1 := hl v hv hb
  obtain ⟨z, e⟩ := int_nat h1.1
  exact ⟨z, e, by omega, Nat.le_trans (occ_mem hv (refB_self hb e)) (hle z)⟩
theorem MOk.pos_reg {σ : MSt} (h : MOk σ) {r : Nat} (hr : r < 8) : (rgA σ.regs (r : Int)).1 = true → ∃ z : Nat, (rgA σ.regs (r : Int)).2 = (z : Int) ∧ z < σ.objs.length ∧ 1 ≤ pts z σ :=
  mok_pos h.vr (List.mem_of_getElem? (rgA_at (by rw [h.r8]; exact hr))) fun j => by unfold pts; omega
/-- A register becomes a value. -/
theorem CnSim.reg {a : CnA} {t : CrA} (h : CnSim a t) {r : Nat} (hr : r < 8) {v : Val} (hv : a.vok v) :
    CnSim (a.sh r v) ((⟨⟨t.σ.regs.set r v, t.σ.objs⟩, t.gone, t.gl⟩ : CrA).lose (rgA t.σ.regs (r : Int))) := by
  have hvt := h.there hv
  have h8 := h.ok.m.r8
  have hm : MOk ⟨t.σ.regs.set r v, t.σ.objs⟩ := ⟨by dsimp only; rw [List.length_set]; exact h8, valsOk_set h.ok.m.vr _ (fun hb => by
    obtain ⟨z, e, hz⟩ := hvt hb
    have := (List.getElem?_eq_some_iff.1 hz).1
    have := h.ok.lg
    omega), h.ok.m.vo, h.ok.m.f4⟩
  obtain ⟨k1, k2, k3⟩ := h.rep (u := rgA t.σ.regs (r : Int)) (v := v) (σ' := ⟨t.σ.regs.set r v, t.σ.objs⟩) (b := a.up v) hm rfl (fun j => by
    have := occ_set (j := j) v (rgA_at (l := t.σ.regs) (r := r) (by omega))
    unfold pts
    dsimp only
    omega) hvt (h.ok.m.pos_reg hr) (by rw [up_objs]; exact h.s.ob) (by unfold CnA.up; split <;> exact h.s.gl) rfl
  have e : a.sh r v = ((a.up v).down (rgA t.σ.regs (r : Int))).sr r v := by unfold CnA.sh CnA.hold; rw [h.r]
  refine ⟨?_, ?_, k1⟩
  · rw [e]; exact ⟨k3.ob, k3.gl, k3.lc, k3.eq⟩
  · rw [e, k2.r]
    show ((a.up v).down _).regs.set r v = _
    rw [down_regs, up_regs, h.r]
theorem pts_out {σ : MSt} (h : MOk σ) {j : Nat} (hj : σ.objs.length ≤ j) : pts j σ = 0 := by
  have hz : ∀ l : List Val, ValsOk σ.objs.length l → occ j l = 0 := fun l hl => by
    unfold occ
    rw [List.countP_eq_zero]
    intro v hv hb
    obtain ⟨h1, h2⟩ := refB_eq hb
    have := hl v hv h1
    omega
  have gen : ∀ l : List (List Val), (∀ fs ∈ l, occ j fs = 0) → ptsO j l = 0 := by
    intro l
    induction l with
    | nil => exact fun _ => rfl
    | cons x l ih =>
      intro hx
      have h1 := ih fun fs hf => hx fs (List.mem_cons_of_mem _ hf)
      have h2 := hx x (List.mem_cons_self ..)
      unfold ptsO at h1 ⊢
      rw [List.map_cons, List.sum_cons, h1, h2]
  unfold pts
  rw [hz _ h.vr, gen _ fun fs hf => hz _ (h.vo fs hf)]
theorem CnSim.push {a : CnA} {t : CrA} (h : CnSim a t) {n : Nat} (h4 : n ≤ 4) : CnSim (a.push n) ⟨⟨t.σ.regs, t.σ.objs ++ [zeroVs n]⟩, t.gone ++ [false], t.gl⟩ := by
  have hp : ∀ j, pts j ⟨t.σ.regs, t.σ.objs ++ [zeroVs n]⟩ = pts j t.σ := fun j => by
    unfold pts
    dsimp only
    rw [ptsO_app, occ_zeros]; rfl
  have hm : MOk ⟨t.σ.regs, t.σ.objs ++ [zeroVs n]⟩ := by
    refine ⟨h.ok.m.r8, ?_, fun fs hf => ?_, fun fs hf => ?_⟩
    · dsimp only
      rw [List.length_append, List.length_singleton]
      exact valsOk_mono h.ok.m.vr (by omega)
    · dsimp only at hf ⊢
      rw [List.length_append, List.length_singleton]
      rcases List.mem_append.1 hf with h1 | h1
      · exact valsOk_mono (h.ok.m.vo fs h1) (by omega)
      · rw [List.mem_singleton.1 h1]; exact zeroVs_ok _ _
    · rcases List.mem_append.1 hf with h1 | h1
      · exact h.ok.m.f4 fs h1
      · rw [List.mem_singleton.1 h1]; simp only [zeroVs, List.length_replicate]; exact h4
  refine ⟨⟨?_, h.s.gl, ?_, fun j hj => ?_⟩, h.r, ⟨?_, hm, fun j hj => ?_⟩⟩
  · show a.objs ++ _ = maskL (t.σ.objs ++ _) (t.gone ++ [false])
    rw [h.s.ob, maskL_app _ _ h.ok.lg]
  · show (a.cnt ++ [0]).length = (t.σ.objs ++ [_]).length
    rw [List.length_append, List.length_append, h.s.lc]; rfl
  · rw [show (⟨⟨t.σ.regs, t.σ.objs ++ [zeroVs n]⟩, t.gone ++ [false], t.gl⟩ : CrA).σ = ⟨t.σ.regs, t.σ.objs ++ [zeroVs n]⟩ from rfl, hp]
    show (a.cnt ++ [0]).getD j 0 = _
    rw [List.getD_eq_getElem?_getD]
    by_cases hj2 : j < t.σ.objs.length
    · rw [List.getElem?_append_left (by rw [h.s.lc]; exact hj2), ← List.getD_eq_getElem?_getD, h.s.eq j hj2]
    · rw [List.getElem?_append_right (by rw [h.s.lc]; omega), pts_out h.ok.m (by omega)]
      cases h2 : ([0] : List Int)[j - a.cnt.length]? with
      | none => rfl
      | some x =>
        have := List.mem_of_getElem? h2
        rw [List.mem_singleton.1 this]; rfl
  · show (t.gone ++ [false]).length = (t.σ.objs ++ [_]).length
    rw [List.length_append, List.length_append, h.ok.lg]; rfl
  · rw [show (⟨⟨t.σ.regs, t.σ.objs ++ [zeroVs n]⟩, t.gone ++ [false], t.gl⟩ : CrA).σ = ⟨t.σ.regs, t.σ.objs ++ [zeroVs n]⟩ from rfl, hp]
    have hj' : (t.gone ++ [false])[j]? = some true := hj
    by_cases hj2 : j < t.gone.length
    · rw [List.getElem?_append_left hj2] at hj'
      exact h.ok.th j hj'
    · rw [List.getElem?_append_right (by omega)] at hj'
      have := List.mem_of_getElem? hj'
      simp at this
theorem CnSim.ob {a : CnA} {t : CrA} (h : CnSim a t) {i : Nat} {fs : List Val} (hf : a.fld i = some fs) : obA t.σ.objs (i : Int) = fs := ((h.s.fld h.ok.lg i fs).1 hf).2
theorem CnSim.err {a : CnA} {t : CrA} (h : CnSim a t) (ok : CnOk a) (r at_ : Int) : cnErr a (rgA a.regs r) at_ = fErr t.σ.objs (rgA t.σ.regs r) at_ := by
  rw [← h.r]
  unfold cnErr fErr
  by_cases hb : (rgA a.regs r).1 = false
  · rw [if_pos hb, if_pos hb]
  · rw [if_neg hb, if_neg hb]
    obtain ⟨i, fs, e, hf⟩ := ok.rg r (by simpa using hb)
    rw [e, h.ob hf, Int.toNat_natCast, hf]
    rfl
theorem lose_no (t : CrA) : t.lose (false, 0) = t := by unfold CrA.lose loseW; rw [if_pos (.inl rfl)]
theorem CnSim.step {a : CnA} {t : CrA} (h : CnSim a t) (ok : CnOk a) (R : Int) (d : DoV) : (cnDo R d a).1 = (crStep R d t).1 ∧ CnSim (cnDo R d a).2 (crStep R d t).2 := by
  unfold cnDo crStep
  by_cases hw : wrongM d ≠ 0
  · have e1 : rWrong d t.σ = wrongM d := by unfold rWrong; rw [if_pos hw]
    have e2 : crErr R d t = wrongM d := by unfold crErr; rw [e1, if_neg (fun h => hw h.1)]
    rw [if_pos hw, e2, if_pos hw]
    exact ⟨rfl, h⟩
  rw [if_neg hw]
  have hw0 : wrongM d = 0 := by omega
  have hto : d.k ≠ 7 → ∃ r : Nat, d.to = (r : Int) ∧ r < 8 := fun h => by
    have h1 := wrongM_to hw0 h
    obtain ⟨r, e⟩ := int_nat h1.1
    exact ⟨r, e, by omega⟩
  unfold cnKst
  by_cases h1 : d.k = 1
  · rw [if_pos h1]
    obtain ⟨r, er, hr⟩ := hto (by omega)
    have h4 := wrongM_n hw0 h1
    obtain ⟨n, en⟩ := int_nat h4.1
    have e1 : rWrong d t.σ = 0 := by unfold rWrong; rw [if_neg hw, if_neg (by omega), if_neg (by omega)]
    unfold crErr cnNew
    rw [e1, h.num, en, Int.toNat_natCast]
    by_cases hR : R ≤ (t.ng : Int)
    · have ec : (if (0 : Int) = 0 ∧ d.k = 1 ∧ R ≤ (t.ng : Int) then (6 : Int) else 0) = 6 := if_pos ⟨rfl, h1, hR⟩
      rw [if_pos hR, ec]
      exact ⟨rfl, h⟩
    · have ec : (if (0 : Int) = 0 ∧ d.k = 1 ∧ R ≤ (t.ng : Int) then (6 : Int) else 0) = 0 := if_neg (fun h => hR h.2.2)
      rw [if_neg hR, ec, if_neg (fun h => h rfl), if_neg (fun h => h rfl)]
      have hk : stepK d t.σ = (⟨0, false, 0⟩, ⟨t.σ.regs.set r (true, t.σ.objs.length), t.σ.objs ++ [zeroVs n]⟩) := by unfold stepK; rw [if_pos h1, er, en, Int.toNat_natCast, Int.toNat_natCast]
      have hp := h.push (n := n) (by omega)
      have h2 := hp.reg hr (v := (true, (a.objs.length : Int))) (ok.push (by omega)).2
      unfold CrA.do_ crOld goneD
      rw [hk, if_pos h1, if_pos (.inl h1), er, Int.toNat_natCast]
      rw [h.n] at h2 ⊢
      exact ⟨rfl, h2⟩
  have e0 : crErr R d t = rWrong d t.σ := by unfold crErr; rw [if_neg (fun h => h1 h.2.1)]
  have hgo : goneD d t.gone = t.gone := by unfold goneD; rw [if_neg h1]
  rw [if_neg h1, e0]
  unfold CrA.do_
  rw [hgo]
  by_cases h2 : d.k = 2
  · obtain ⟨r, er, hr⟩ := hto (by omega)
    have e1 : rWrong d t.σ = 0 := by unfold rWrong; rw [if_neg hw, if_neg (by omega), if_neg (by omega)]
    have hk : stepK d t.σ = (⟨0, false, 0⟩, ⟨t.σ.regs.set r (false, d.n), t.σ.objs⟩) := by unfold stepK; rw [if_neg h1, if_pos h2, er, Int.toNat_natCast]
    unfold crOld
    rw [if_pos h2, e1, if_neg (by simp), hk, if_pos (.inr (.inl h2)), er, Int.toNat_natCast]
    exact ⟨rfl, h.reg hr (fun hb => by cases hb)⟩
  rw [if_neg h2]
  by_cases h3 : d.k = 3
  · obtain ⟨r, er, hr⟩ := hto (by omega)
    have e1 : rWrong d t.σ = 0 := by unfold rWrong; rw [if_neg hw, if_neg (by omega), if_neg (by omega)]
    have hk : stepK d t.σ = (⟨0, false, 0⟩, ⟨t.σ.regs.set r (rgA t.σ.regs d.fr), t.σ.objs⟩) := by unfold stepK; rw [if_neg h1, if_neg h2, if_pos h3, er, Int.toNat_natCast]
    unfold crOld
    rw [if_pos h3, e1, if_neg (by simp), hk, if_pos (.inr (.inr (.inl h3))), er, Int.toNat_natCast]
    have h5 := h.reg hr (ok.rg d.fr)
    rw [h.r] at h5 ⊢
    exact ⟨rfl, h5⟩
  rw [if_neg h3]
  by_cases h5 : d.k = 4
  · rw [if_pos h5]
    have he := h.err ok d.to d.at_
    have e1 : rWrong d t.σ = fErr t.σ.objs (rgA t.σ.regs d.to) d.at_ := by unfold rWrong; rw [if_neg hw, if_pos h5]
    by_cases hz : cnErr a (rgA a.regs d.to) d.at_ ≠ 0
    · rw [if_pos hz, e1, ← he, if_pos hz]
      exact ⟨rfl, h⟩
    · rw [if_neg hz, e1, ← he, if_neg hz]
      obtain ⟨i, k, fs, e, hf, e2, hk⟩ := ok.at_field (r := d.to) (at_ := d.at_) (by omega)
      have hob := h.ob hf
      have e' : rgA t.σ.regs d.to = (true, (i : Int)) := by rw [← h.r]; exact e
      have hks : stepK d t.σ = (⟨0, false, 0⟩, ⟨t.σ.regs, t.σ.objs.set i (fs.set k (rgA t.σ.regs d.fr))⟩) := by
        unfold stepK
        rw [if_neg h1, if_neg h2, if_neg h3, if_pos h5, if_neg (by rw [← he]; exact hz), e', e2]
        dsimp only
        rw [hob, Int.toNat_natCast, Int.toNat_natCast]
      have hol : crOld d t.σ = fs[k] := by
        unfold crOld
        rw [if_neg (by omega), if_pos h5, e', e2]
        dsimp only
        rw [hob, Int.toNat_natCast, List.getD_eq_getElem?_getD, List.getElem?_eq_getElem hk]; rfl
      rw [hks, hol, e, e2, Int.toNat_natCast]
      dsimp only
      rw [Int.toNat_natCast]
      obtain ⟨_, p1, p2, p3, _⟩ := ok.put hf hk (ok.rg d.fr)
      have hg := ((h.s.fld h.ok.lg i fs).1 hf).1
      have hat := ob_at (l := t.σ.objs) (i := i) (by rw [← h.n]; exact CnA.fld_lt hf)
      rw [hob] at hat
      have hm : MOk ⟨t.σ.regs, t.σ.objs.set i (fs.set k (rgA t.σ.regs d.fr))⟩ := by
        have := stepK_m (d := d) h.ok.m (by rw [e1, ← he]; omega)
        rw [hks] at this
        exact this
      obtain ⟨k1, k2, k3⟩ := h.rep (u := fs[k]) (v := rgA a.regs d.fr) (σ' := ⟨t.σ.regs, t.σ.objs.set i (fs.set k (rgA t.σ.regs d.fr))⟩) (b := (a.up (rgA a.regs d.fr)).seto i k (rgA a.regs d.fr)) hm (List.length_set ..) (fun j => by
        have q1 := ptsO_set (j := j) (fs.set k (rgA t.σ.regs d.fr)) hat
        have q2 := occ_set (j := j) (rgA t.σ.regs d.fr) (List.getElem?_eq_getElem hk)
        unfold pts
        rw [h.r]
        dsimp only
        omega) (h.there (ok.rg d.fr)) (mok_pos (l := fs) (by have := (h.ok.m.ob (i : Int)).1; rw [hob] at this; exact this) (List.getElem_mem hk) fun j => by have := ptsO_mem (j := j) hat; unfold pts; omega)
        (by
          show (a.up _).objs.set i _ = _
          rw [up_objs, up_fld, hf, h.s.ob, Option.getD_some, maskL_set _ _ h.ok.lg _ (by rw [List.getD_eq_getElem?_getD, hg]; rfl), h.r]) (by show (a.up _).gl = _; unfold CnA.up; split <;> exact h.s.gl) rfl
      rw [p1]
      refine ⟨rfl, k3, ?_, k1⟩
      rw [k2.r, down_regs]
      show (a.up _).regs = _
      rw [up_regs]; exact h.r
  rw [if_neg h5]
  by_cases h6 : d.k = 5
  · rw [if_pos h6]
    have he := h.err ok d.fr d.at_
    have e1 : rWrong d t.σ = fErr t.σ.objs (rgA t.σ.regs d.fr) d.at_ := by unfold rWrong; rw [if_neg hw, if_neg h5, if_pos h6]
    by_cases hz : cnErr a (rgA a.regs d.fr) d.at_ ≠ 0
    · rw [if_pos hz, e1, ← he, if_pos hz]
      exact ⟨rfl, h⟩
    · rw [if_neg hz, e1, ← he, if_neg hz]
      obtain ⟨i, k, fs, e, hf, e2, hk⟩ := ok.at_field (r := d.fr) (at_ := d.at_) (by omega)
      obtain ⟨r, er, hr⟩ := hto (by omega)
      have hob := h.ob hf
      have e' : rgA t.σ.regs d.fr = (true, (i : Int)) := by rw [← h.r]; exact e
      have hg : fs.getD k (false, 0) = fs[k] := by rw [List.getD_eq_getElem?_getD, List.getElem?_eq_getElem hk]; rfl
      have hks : stepK d t.σ = (⟨0, false, 0⟩, ⟨t.σ.regs.set r fs[k], t.σ.objs⟩) := by
        unfold stepK
        rw [if_neg h1, if_neg h2, if_neg h3, if_neg h5, if_pos h6, if_neg (by rw [← he]; exact hz), e', e2, er]
        dsimp only
        rw [hob, Int.toNat_natCast, Int.toNat_natCast, hg]
      unfold crOld
      rw [hks, if_pos (.inr (.inr (.inr h6))), e, e2, er, Int.toNat_natCast]
      dsimp only
      rw [Int.toNat_natCast, Int.toNat_natCast, hf, Option.getD_some, hg]
      exact ⟨rfl, h.reg hr (ok.inv.vokF hf (List.getElem_mem hk))⟩
  rw [if_neg h6]
  have e1 : rWrong d t.σ = 0 := by unfold rWrong; rw [if_neg hw, if_neg h5, if_neg h6]
  have hol : crOld d t.σ = (false, 0) := by unfold crOld; rw [if_neg (by omega), if_neg h5]
  have ee : ∀ x y : OutV × CrA, (if (0 : Int) ≠ 0 then x else y) = y := fun x y => if_neg (fun h => h rfl)
  rw [e1, ee, hol, lose_no]
  by_cases h7 : d.k = 6
  · have hks : stepK d t.σ = (⟨0, false, if rgA t.σ.regs d.to = rgA t.σ.regs d.fr then 1 else 0⟩, t.σ) := by
      unfold stepK
      rw [if_neg h1, if_neg h2, if_neg h3, if_neg h5, if_neg h6, if_pos h7]
    rw [if_pos h7, hks]
    exact ⟨by rw [h.r], h⟩
  · have hks : stepK d t.σ = (⟨0, (rgA t.σ.regs d.fr).1, if (rgA t.σ.regs d.fr).1 = true then (obA t.σ.objs (rgA t.σ.regs d.fr).2).length else (rgA t.σ.regs d.fr).2⟩, t.σ) := by
      unfold stepK
      rw [if_neg h1, if_neg h2, if_neg h3, if_neg h5, if_neg h6, if_neg h7]
    rw [if_neg h7, hks]
    refine ⟨?_, h⟩
    dsimp only
    rw [← h.r]
    by_cases hb : (rgA a.regs d.fr).1 = true
    · obtain ⟨i, fs, e, hf⟩ := ok.rg d.fr hb
      rw [if_pos hb, if_pos hb, e, h.ob hf, Int.toNat_natCast, hf]
      rfl
    · rw [if_neg hb, if_neg hb]
end Go.Proofs.Ytjphckfbbiehdaa

namespace Go.Proofs.Ytjphckfbbiehdaa
open Go.RowKit

def upsC (l : List Val) (a : CnA) : CnA := l.foldl CnA.up a
def upsO (l : List (List Val)) (a : CnA) : CnA := l.foldl (fun a fs => upsC fs a) a
def cn0 (σ : MSt) : CnA := ⟨σ.regs, σ.objs.map some, List.replicate σ.objs.length 0, []⟩
def cnUp (σ : MSt) : CnA := upsO σ.objs (upsC σ.regs (cn0 σ))
def CnA.drop (a : CnA) (i : Nat) : CnA := cdropN a.objs.length a i
def begC (a : CnA) (i : Nat) : CnA := if a.cnt.getD i 0 = 0 ∧ (a.fld i).isSome = true then a.drop i else a
def cnBeg (σ : MSt) (k : Nat) : CnA := (List.range k).foldl begC (cnUp σ)
def cr0 (σ : MSt) : CrA := ⟨σ, List.replicate σ.objs.length false, []⟩
def begR (t : CrA) (i : Nat) : CrA := if t.gone.getD i false = false ∧ pts i t.σ = 0 then goesN t.σ.objs.length t i else t
def crBeg (σ : MSt) (k : Nat) : CrA := (List.range k).foldl begR (cr0 σ)
theorem cnBeg_succ (σ : MSt) (k : Nat) : cnBeg σ (k + 1) = begC (cnBeg σ k) k := by unfold cnBeg; rw [List.range_succ, List.foldl_append]; rfl
theorem crBeg_succ (σ : MSt) (k : Nat) : crBeg σ (k + 1) = begR (crBeg σ k) k := by unfold crBeg; rw [List.range_succ, List.foldl_append]; rfl
/-- So many references more. -/
structure UpK (a b : CnA) (f : Nat → Nat) : Prop where
  r : b.regs = a.regs
  o : b.objs = a.objs
  g : b.gl = a.gl
  n : b.cnt.length = a.cnt.length
  c : ∀ j : Nat, b.cnt.getD j 0 = a.cnt.getD j 0 + (f j : Int)
theorem UpK.refl (a : CnA) : UpK a a fun _ => 0 := ⟨rfl, rfl, rfl, rfl, fun _ => by omega⟩
theorem UpK.trans {a b c : CnA} {f g : Nat → Nat} (h : UpK a b f) (k : UpK b c g) : UpK a c fun j => f j + g j :=
  ⟨k.r.trans h.r, k.o.trans h.o, k.g.trans h.g, k.n.trans h.n, fun j => by rw [k.c, h.c]; omega⟩
theorem UpK.congr {a b : CnA} {f g : Nat → Nat} (h : UpK a b f) (e : ∀ j, f j = g j) : UpK a b g := ⟨h.r, h.o, h.g, h.n, fun j => by rw [h.c, e]⟩
theorem upK_up (a : CnA) {v : Val} (hv : v.1 = true → 0 ≤ v.2 ∧ v.2 < (a.cnt.length : Int)) : UpK a (a.up v) fun j => if refB j v = true then 1 else 0 := by
  have h1 := up_cnt a (v := v) fun hb => by
    obtain ⟨z, e⟩ := int_nat (hv hb).1
    exact ⟨z, e, by have := (hv hb).2; omega⟩
  refine ⟨up_regs a v, up_objs a v, up_gl a v, (h1 0).2.1, fun j => ?_⟩
  rw [(h1 j).1]
  split <;> rfl
theorem upK_ups : ∀ (l : List Val) (a : CnA), ValsOk a.cnt.length l → UpK a (upsC l a) fun j => occ j l := by
  intro l
  induction l with
  | nil => exact fun a _ => UpK.refl a
  | cons v l ih =>
    intro a h
    have h1 := upK_up a (h v (List.mem_cons_self ..))
    have h2 := ih (a.up v) (by rw [h1.n]; exact fun u hu => h u (List.mem_cons_of_mem _ hu))
    exact (h1.trans h2).congr fun j => by rw [occ_cons]; omega
theorem upK_upsO : ∀ (l : List (List Val)) (a : CnA), (∀ fs ∈ l, ValsOk a.cnt.length fs) → UpK a (upsO l a) fun j => ptsO j l := by
  intro l
  induction l with
  | nil => exact fun a _ => UpK.refl a
  | cons fs l ih =>
    intro a h
    have h1 := upK_ups fs a (h fs (List.mem_cons_self ..))
    have h2 := ih (upsC fs a) (by rw [h1.n]; exact fun u hu => h u (List.mem_cons_of_mem _ hu))
    exact (h1.trans h2).congr fun j => by unfold ptsO; rw [List.map_cons, List.sum_cons]
theorem cn0_cnt (σ : MSt) : (cn0 σ).cnt.length = σ.objs.length ∧ ∀ j, (cn0 σ).cnt.getD j 0 = 0 := by
  refine ⟨List.length_replicate .., fun j => ?_⟩
  show (List.replicate _ (0 : Int)).getD j 0 = 0
  rw [List.getD_eq_getElem?_getD, List.getElem?_replicate]
  split <;> rfl
theorem ptsO_le {j : Nat} : ∀ {l : List (List Val)}, (∀ fs ∈ l, fs.length ≤ 4) → ptsO j l ≤ 4 * l.length := by
  intro l
  induction l with
  | nil => intro _; exact Nat.le_refl _
  | cons o l ih =>
    intro h
    have h1 := ih fun fs hi => h fs (List.mem_cons_of_mem _ hi)
    have h2 := Nat.le_trans (occ_le j o) (h o (List.mem_cons_self ..))
    unfold ptsO at h1 ⊢
    rw [List.map_cons, List.sum_cons, List.length_cons]
    omega
/-- What holds while references are counted. -/
structure UpOk (σ : MSt) (a : CnA) (N : Nat) : Prop where
  r : a.regs = σ.regs
  o : a.objs = σ.objs.map some
  g : a.gl = []
  n : a.cnt.length = σ.objs.length
  b : ∀ j : Nat, 0 ≤ a.cnt.getD j 0 ∧ a.cnt.getD j 0 ≤ N
theorem upOk_of {σ : MSt} {b : CnA} {f : Nat → Nat} (h : UpK (cn0 σ) b f) {N : Nat} (hf : ∀ j, f j ≤ N) : UpOk σ b N :=
  ⟨h.r, h.o, h.g, h.n.trans (cn0_cnt σ).1, fun j => by rw [h.c, (cn0_cnt σ).2]; have := hf j; omega⟩
theorem upK_take {σ : MSt} (hM : MOk σ) (k q : Nat) : UpK (cn0 σ) (upsC ((obA σ.objs (k : Int)).take q) (upsO (σ.objs.take k) (upsC σ.regs (cn0 σ)))) fun j => occ j σ.regs + ptsO j (σ.objs.take k) + occ j ((obA σ.objs (k : Int)).take q) := by
  have e0 := (cn0_cnt σ).1
  have h1 := upK_ups σ.regs (cn0 σ) (by rw [e0]; exact hM.vr)
  have h2 := upK_upsO (σ.objs.take k) (upsC σ.regs (cn0 σ)) (by rw [h1.n, e0]; exact fun fs hf => hM.vo fs (List.mem_of_mem_take hf))
  have h3 := upK_ups ((obA σ.objs (k : Int)).take q) (upsO (σ.objs.take k) (upsC σ.regs (cn0 σ))) (by rw [h2.n, h1.n, e0]; exact fun v hv => (hM.ob (k : Int)).1 v (List.mem_of_mem_take hv))
  exact ((h1.trans h2).trans h3).congr fun j => rfl
theorem upOk_regs {σ : MSt} (hM : MOk σ) (k : Nat) : UpOk σ (upsC (σ.regs.take k) (cn0 σ)) 8 :=
  upOk_of (upK_ups _ _ (by rw [(cn0_cnt σ).1]; exact fun v hv => hM.vr v (List.mem_of_mem_take hv))) fun j => by
    have := occ_le j (σ.regs.take k)
    have h8 := hM.r8
    rw [List.length_take] at this
    omega
theorem upOk_objs {σ : MSt} (hM : MOk σ) (hn : σ.objs.length ≤ 24) (k q : Nat) : UpOk σ (upsC ((obA σ.objs (k : Int)).take q) (upsO (σ.objs.take k) (upsC σ.regs (cn0 σ)))) 200 :=
  upOk_of (upK_take hM k q) fun j => by
    have h1 := occ_le j σ.regs
    have h2 := ptsO_le (j := j) (l := σ.objs.take k) fun fs hf => hM.f4 fs (List.mem_of_mem_take hf)
    have h3 := occ_le j ((obA σ.objs (k : Int)).take q)
    have h4 := (hM.ob (k : Int)).2
    have h8 := hM.r8
    rw [List.length_take] at h2 h3
    omega
theorem upsC_take (l : List Val) (a : CnA) {k : Nat} (hk : k < l.length) : upsC (l.take (k + 1)) a = (upsC (l.take k) a).up l[k] := by
  unfold upsC
  rw [List.take_succ_eq_append_getElem hk, List.foldl_append]; rfl
theorem upsO_take (l : List (List Val)) (a : CnA) {k : Nat} (hk : k < l.length) : upsO (l.take (k + 1)) a = upsC (obA l (k : Int)) (upsO (l.take k) a) := by
  unfold upsO
  rw [List.take_succ_eq_append_getElem hk, List.foldl_append]
  have : obA l (k : Int) = l[k] := by unfold obA; rw [Int.toNat_natCast, List.getD_eq_getElem?_getD, List.getElem?_eq_getElem hk]; rfl
  rw [this]; rfl
theorem cr0_ok {σ : MSt} (hM : MOk σ) : CrOk (cr0 σ) := ⟨List.length_replicate .., hM, fun j hj => by
  have : (List.replicate σ.objs.length false)[j]? = some true := hj
  rw [List.getElem?_replicate] at this
  split at this <;> cases this⟩
theorem mask_all (objs : List (List Val)) : maskL objs (List.replicate objs.length false) = objs.map some := by
  refine List.ext_getElem? fun i => ?_
  rw [maskL_get _ _ (List.length_replicate ..), List.getElem?_map, List.getD_eq_getElem?_getD, List.getElem?_replicate]
  cases objs[i]? with
  | none => rfl
  | some fs => split <;> rfl
theorem upK_all {σ : MSt} (hM : MOk σ) : UpK (cn0 σ) (cnUp σ) fun j => pts j σ := by
  have e0 := (cn0_cnt σ).1
  have h1 := upK_ups σ.regs (cn0 σ) (by rw [e0]; exact hM.vr)
  have h2 := upK_upsO σ.objs (upsC σ.regs (cn0 σ)) (by rw [h1.n, e0]; exact hM.vo)
  exact (h1.trans h2).congr fun j => rfl
theorem cnUp_sim {σ : MSt} (hM : MOk σ) : CnSim (cnUp σ) (cr0 σ) := by
  have h := upK_all hM
  exact ⟨⟨h.o.trans (mask_all _).symm, h.g, h.n.trans (cn0_cnt σ).1, fun j _ => by rw [h.c, (cn0_cnt σ).2]; exact Int.zero_add _⟩, h.r, cr0_ok hM⟩
/-- What the program's memory may be, by the reference's. -/
theorem CnSim.inv {a : CnA} {t : CrA} (h : CnSim a t) (hz : ∀ i : Nat, t.gone[i]? = some true → ∀ j, occ j (obA t.σ.objs (i : Int)) = 0) (hgb : a.gl.length + a.num ≤ a.objs.length) : CnOk a := by
  have hO : ∀ j, occO j a.objs = ptsO j t.σ.objs := by
    intro j
    rw [h.s.ob]
    have gen : ∀ (objs : List (List Val)) (gone : List Bool), gone.length = objs.length → (∀ i : Nat, gone[i]? = some true → occ j (obA objs (i : Int)) = 0) → occO j (maskL objs gone) = ptsO j objs := by
      intro objs
      induction objs with
      | nil => intro gone hl _; rw [List.eq_nil_of_length_eq_zero hl]; rfl
      | cons o objs ih =>
        intro gone hl hz
        cases gone with
        | nil => cases hl
        | cons g gone =>
          have h1 := ih gone (by simpa using hl) fun i hi => by
            have := hz (i + 1) (by simpa using hi)
            unfold obA at this ⊢
            rw [Int.toNat_natCast] at this ⊢
            simpa using this
          unfold occO ptsO maskL at h1 ⊢
          rw [List.zipWith_cons_cons, List.map_cons, List.map_cons, List.sum_cons, List.sum_cons, h1]
          cases g
          · rfl
          · have := hz 0 (by simp)
            unfold obA at this
            simp at this
            simp [this, occ_nil]
    exact gen _ _ h.ok.lg fun i hi => hz i hi j
  refine ⟨by rw [h.r]; exact h.ok.m.r8, ⟨h.s.lc.trans h.n.symm, fun j hj => ?_, fun j hj hn => ?_, fun v hv hb => ?_, fun i fs hf v hv hb => ?_, fun i fs hf => ?_⟩, hgb⟩
  · rw [h.s.eq j (by rw [← h.n]; exact hj), hO, h.r]; rfl
  · have hj' : j < t.σ.objs.length := by rw [← h.n]; exact hj
    rw [h.s.eq j hj']
    cases hg : t.gone[j]? with
    | none => rw [List.getElem?_eq_none_iff, h.ok.lg] at hg; omega
    | some b =>
      cases b
      · rw [(h.s.fld h.ok.lg j _).2 ⟨hg, rfl⟩] at hn; cases hn
      · rw [h.ok.th j hg]; rfl
  · rw [h.r] at hv
    have h1 := h.ok.m.vr v hv hb
    obtain ⟨z, e⟩ := int_nat h1.1
    exact ⟨z, by rw [h.n]; omega, e⟩
  · have h1 := (h.ok.m.ob (i : Int)).1
    rw [h.ob hf] at h1
    have h2 := h1 v hv hb
    obtain ⟨z, e⟩ := int_nat h2.1
    exact ⟨z, by rw [h.n]; omega, e⟩
  · have h1 := (h.ok.m.ob (i : Int)).2
    rwa [h.ob hf] at h1
theorem cnUp_ok {σ : MSt} (hM : MOk σ) : CnOk (cnUp σ) := by
  have h := upK_all hM
  refine (cnUp_sim hM).inv (fun i hi => ?_) ?_
  · have : (List.replicate σ.objs.length false)[i]? = some true := hi
    rw [List.getElem?_replicate] at this
    split at this <;> cases this
  · rw [h.g]
    have := someN_le (cnUp σ).objs
    show 0 + someN _ ≤ _
    omega
theorem cnBeg_ok {σ : MSt} (hM : MOk σ) : ∀ k, k ≤ σ.objs.length → CnSim (cnBeg σ k) (crBeg σ k) ∧ CnOk (cnBeg σ k) ∧ (cnBeg σ k).objs.length = σ.objs.length ∧ (cnBeg σ k).regs = σ.regs := by
  intro k
  induction k with
  | zero => exact fun _ => ⟨cnUp_sim hM, cnUp_ok hM, by show (cnUp σ).objs.length = _; rw [(upK_all hM).o]; exact List.length_map .., (upK_all hM).r⟩
  | succ k ih =>
    intro hk
    obtain ⟨h, ok, hn, hr⟩ := ih (by omega)
    rw [cnBeg_succ, crBeg_succ]
    have hkn : k < (crBeg σ k).σ.objs.length := by rw [← h.n, hn]; omega
    have hg : (crBeg σ k).gone[k]? = some ((crBeg σ k).gone.getD k false) := by
      have hgl : k < (crBeg σ k).gone.length := by rw [h.ok.lg]; exact hkn
      rw [List.getD_eq_getElem?_getD, List.getElem?_eq_getElem hgl]; rfl
    have e1 := h.s.eq k hkn
    have e2 : ((cnBeg σ k).fld k).isSome = true ↔ (crBeg σ k).gone.getD k false = false := by
      constructor
      · intro hs
        obtain ⟨fs, hf⟩ := Option.isSome_iff_exists.1 hs
        have := ((h.s.fld h.ok.lg k fs).1 hf).1
        rw [hg] at this
        exact Option.some.inj this
      · intro he
        rw [he] at hg
        rw [(h.s.fld h.ok.lg k _).2 ⟨hg, rfl⟩]; rfl
    unfold begC begR
    by_cases hc : (crBeg σ k).gone.getD k false = false ∧ pts k (crBeg σ k).σ = 0
    · have hg2 := hg
      rw [hc.1] at hg2
      have hf := (h.s.fld h.ok.lg k (obA (crBeg σ k).σ.objs (k : Int))).2 ⟨hg2, rfl⟩
      have hc0 : (cnBeg σ k).cnt.getD k 0 = 0 := by rw [e1, hc.2]; rfl
      rw [if_pos hc, if_pos ⟨hc0, e2.2 hc.1⟩]
      unfold CnA.drop
      have hng : (crBeg σ k).ng ≤ (crBeg σ k).σ.objs.length := by
        have : (crBeg σ k).gone.countP (fun g => !g) ≤ (crBeg σ k).gone.length := List.countP_le_length
        rw [← h.ok.lg]; exact this
      obtain ⟨g1, g2, g3⟩ := goes_ok _ (cnBeg σ k) (crBeg σ k) k h.ok h.s hg2 hc.2 hng
      obtain ⟨d1, d2⟩ := cdrop_ok (crBeg σ k).σ.objs.length (cnBeg σ k) (cnBeg σ k).regs k _ ok.inv hf hc0 (by rw [h.num]; exact hng)
      rw [h.n]
      refine ⟨⟨g3, d2.r.trans (h.r.trans g2.r.symm), g1⟩, ⟨by rw [d2.r]; exact ok.r8, by rw [d2.r]; exact d1, by rw [d2.n]; have := d2.l; have := ok.gb; omega⟩, by rw [d2.n, hn], d2.r.trans hr⟩
    · rw [if_neg hc, if_neg (fun h2 => hc ⟨e2.1 h2.2, by have := h2.1; omega⟩)]
      exact ⟨h, ok, hn, hr⟩
/-! ### Scripts. -/
def cnStp (R : Int) (p : List OutV × CnA) (d : DoV) : List OutV × CnA := (p.1 ++ [(cnDo R d p.2).1], (cnDo R d p.2).2)
def crStp (R : Int) (p : List OutV × CrA) (d : DoV) : List OutV × CrA := (p.1 ++ [(crStep R d p.2).1], (crStep R d p.2).2)
def cnRun (R : Int) (ds : List DoV) (a : CnA) : List OutV × CnA := ds.foldl (cnStp R) ([], a)
def crRun (R : Int) (ds : List DoV) (t : CrA) : List OutV × CrA := ds.foldl (crStp R) ([], t)
theorem cnRun_at (R : Int) (ds : List DoV) (a : CnA) (k : Nat) (hk : k < ds.length) : cnRun R (ds.take (k + 1)) a = ((cnRun R (ds.take k) a).1 ++ [(cnDo R ds[k] (cnRun R (ds.take k) a).2).1], (cnDo R ds[k] (cnRun R (ds.take k) a).2).2) := by
  unfold cnRun
  rw [List.take_succ_eq_append_getElem hk, List.foldl_append]; rfl
theorem crRun_at (R : Int) (ds : List DoV) (t : CrA) (k : Nat) (hk : k < ds.length) : crRun R (ds.take (k + 1)) t = ((crRun R (ds.take k) t).1 ++ [(crStep R ds[k] (crRun R (ds.take k) t).2).1], (crStep R ds[k] (crRun R (ds.take k) t).2).2) := by
  unfold crRun
  rw [List.take_succ_eq_append_getElem hk, List.foldl_append]; rfl
theorem cn_run (R : Int) (ds : List DoV) {a : CnA} {t : CrA} (h : CnSim a t) (ok : CnOk a) : ∀ k, k ≤ ds.length → (cnRun R (ds.take k) a).1 = (crRun R (ds.take k) t).1 ∧ CnSim (cnRun R (ds.take k) a).2 (crRun R (ds.take k) t).2 ∧ CnOk (cnRun R (ds.take k) a).2 ∧ (cnRun R (ds.take k) a).2.objs.length ≤ a.objs.length + k ∧ (cnRun R (ds.take k) a).1.length = k := by
  intro k
  induction k with
  | zero => exact fun _ => ⟨rfl, h, ok, Nat.le_refl _, rfl⟩
  | succ k ih =>
    intro hk
    obtain ⟨h1, h2, h3, h4, h5⟩ := ih (by omega)
    rw [cnRun_at R ds a k (by omega), crRun_at R ds t k (by omega)]
    obtain ⟨s1, s2⟩ := h2.step h3 R (ds[k]'(by omega))
    obtain ⟨o1, o2, o3⟩ := h3.do_ R (ds[k]'(by omega))
    exact ⟨by dsimp only; rw [h1, s1], s2, o1, by dsimp only; omega, by dsimp only; rw [List.length_append, h5]; rfl⟩
def cnThere (a : CnA) : List (Int × Int) := (thereL a.objs).map fun x => (x, a.cnt.getD x.toNat 0)
def crThere (t : CrA) : List (Int × Int) := (thereG t.gone).map fun x => (x, (pts x.toNat t.σ : Int))
theorem CnSim.told {a : CnA} {t : CrA} (h : CnSim a t) : cnThere a = crThere t := by
  unfold cnThere crThere
  have e : thereL a.objs = thereG t.gone := by rw [h.s.ob, thereL_mask _ _ h.ok.lg]
  rw [e]
  refine List.map_congr_left fun x hx => ?_
  rw [← e] at hx
  obtain ⟨i, fs, rfl, hf⟩ := (mem_thereL _ _).1 hx
  have hi : i < t.σ.objs.length := by rw [← h.n]; exact (List.getElem?_eq_some_iff.1 hf).1
  rw [Int.toNat_natCast, h.s.eq i hi]
end Go.Proofs.Ytjphckfbbiehdaa

namespace Go.Proofs.Ytjphckfbbiehdaa
open Go.RowKit

theorem wrapC64 (x : Int) (h0 : -1000000 ≤ x) (h1 : x ≤ 1000000) : IntKind.i64.wrap x = x := by
  simp [IntKind.wrap, IntKind.bits, IntKind.signed]; omega
structure CnT where
  regs : List Val
  oj : Oj
  Ac : Option Addr
  cc : Nat
  cnt : List Int
  Ag : Option Addr
  cg : Nat
  gl : List Int
def CnT.a (t : CnT) : CnA := ⟨t.regs, t.oj.abs, t.cnt, t.gl⟩
def CnT.cn (t : CnT) (l : List Int) : CnT := { t with cnt := l }
def cnC (Bm : Nat) (R N : Int) (t : CnT) : Array Value := #[t.oj.v, .pointer (some ⟨Bm, 0, none⟩), .slice t.Ac t.cnt.length t.cc, .int .i64 R, .int .i64 N, .slice t.Ag t.gl.length t.cg]
def cnRN (Be Bm : Nat) (R N : Int) (t : CnT) : List Item := blkI Be 167 (cnC Bm R N t) :: rowI 3 1 t.Ac t.cnt.length t.cc (ints t.cnt) :: rowI 3 1 t.Ag t.gl.length t.cg (ints t.gl) :: ojL t.oj
def cnR (Be Bm : Nat) (R : Int) (t : CnT) : List Item := cnRN Be Bm R (t.a.num : Int) t
theorem CnT.cn_a (t : CnT) (v : Val) : (t.cn (t.a.up v).cnt).a = t.a.up v := by
  unfold CnA.up
  split <;> rfl
theorem CnT.cn_dec (t : CnT) (v : Val) : (t.cn (t.a.dec v).cnt).a = t.a.dec v := rfl
theorem CnT.n (t : CnT) : t.a.objs.length = t.oj.ps.length := oj_lenabs t.oj
theorem CnT.fld {t : CnT} {i : Nat} {fs : List Val} (h : t.a.fld i = some fs) : ∃ p, t.oj.ps[i]? = some (some p) ∧ p.o.fields = fs := oj_abs_at (CnA.fld_iff.1 h)
theorem cn_cells {F : Nat → Prop} {W0 w : World} {Be Bm : Nat} {R N : Int} {t : CnT} {pre : List Item} (hS : Sep F W0 w (pre ++ cnRN Be Bm R N t)) :
    w.cell? ⟨Be, 0, none⟩ = some t.oj.v ∧ w.cell? ⟨Be, 1, none⟩ = some (.pointer (some ⟨Bm, 0, none⟩)) ∧ w.cell? ⟨Be, 2, none⟩ = some (.slice t.Ac t.cnt.length t.cc) ∧ w.cell? ⟨Be, 3, none⟩ = some (.int .i64 R) ∧ w.cell? ⟨Be, 4, none⟩ = some (.int .i64 N) ∧ w.cell? ⟨Be, 5, none⟩ = some (.slice t.Ag t.gl.length t.cg) ∧ (∀ i, w.frozen? ⟨Be, i, none⟩ = false) ∧ Be < w.heap.size := by
  obtain ⟨c1, c2, c3, _⟩ := hS.rules pre.length (g := Be) (t := 167) (cs := cnC Bm R N t) (by rw [List.getElem?_append_right (by omega)]; simp [cnRN])
  exact ⟨(c1 0).trans rfl, (c1 1).trans rfl, (c1 2).trans rfl, (c1 3).trans rfl, (c1 4).trans rfl, (c1 5).trans rfl, c2, c3⟩
theorem cn_int {F : Nat → Prop} {W0 w : World} {Be Bm : Nat} {R N : Int} {t : CnT} {pre : List Item} (hS : Sep F W0 w (pre ++ cnRN Be Bm R N t)) {z : Nat} (hz : z < t.cnt.length) :
    ∃ g, t.Ac = some ⟨g, 0, none⟩ ∧ w.cell? ⟨g, z, none⟩ = some (.int .i64 (t.cnt.getD z 0)) ∧ w.frozen? ⟨g, z, none⟩ = false ∧ g < w.heap.size ∧ g ≠ Be := by
  obtain ⟨g, h1, h2, h3, h4, h5⟩ := int_at (hS.get (pre.length + 1) (i := rowI 3 1 t.Ac t.cnt.length t.cc (ints t.cnt)) (by rw [List.getElem?_append_right (by omega)]; simp [cnRN])) hz
  refine ⟨g, h1, h3, h4, h5, fun e => ?_⟩
  have h6 := hS.other (a := pre.length + 1) (b := pre.length) (x := rowI 3 1 t.Ac t.cnt.length t.cc (ints t.cnt)) (y := blkI Be 167 (cnC Bm R N t)) (by rw [List.getElem?_append_right (by omega)]; simp [cnRN]) (by rw [List.getElem?_append_right (by omega)]; simp [cnRN]) (by omega) g (by rw [h1]; rfl)
  exact h6 e
theorem cn_set {F : Nat → Prop} {W0 w : World} {Be Bm : Nat} {R N : Int} {t : CnT} {pre : List Item} (hS : Sep F W0 w (pre ++ cnRN Be Bm R N t)) {g : Nat} (hA : t.Ac = some ⟨g, 0, none⟩) (z : Nat) (y : Int) :
    Sep F W0 (w.setCell ⟨g, z, none⟩ (.int .i64 y)) (pre ++ cnRN Be Bm R N (t.cn (t.cnt.set z y))) := by
  have h1 : Sep F W0 w (blkI Be 167 (cnC Bm R N t) :: rowI 3 1 (some ⟨g, 0, none⟩) t.cnt.length t.cc (ints t.cnt) :: ((rowI 3 1 t.Ag t.gl.length t.cg (ints t.gl) :: ojL t.oj) ++ pre)) := by
    rw [← hA]
    exact hS.perm (List.perm_append_comm (l₁ := pre))
  have h2 := h1.store 1 (g := g) rfl z (.int .i64 y)
  rw [ints_setC] at h2
  refine Sep.perm (l := pre ++ cnRN Be Bm R N (t.cn (t.cnt.set z y))) ?_ List.perm_append_comm
  have e : cnRN Be Bm R N (t.cn (t.cnt.set z y)) = blkI Be 167 (cnC Bm R N t) :: rowI 3 1 (some ⟨g, 0, none⟩) t.cnt.length t.cc (ints (t.cnt.set z y)) :: rowI 3 1 t.Ag t.gl.length t.cg (ints t.gl) :: ojL t.oj := by
    unfold cnRN cnC CnT.cn
    dsimp only
    rw [List.length_set, hA]
  rw [e]
  exact h2

set_option maxRecDepth 100000 in
set_option maxHeartbeats 4000000 in
theorem cup_any {F : Nat → Prop} {W0 w : World} {Be Bm : Nat} {R N : Int} {t : CnT} {x : Item} (h : Sep F W0 w (x :: cnRN Be Bm R N t)) (hn : t.cnt.length ≤ 1000) (v : Val) (hv : v.1 = true → ∃ z : Nat, v.2 = (z : Int) ∧ z < t.cnt.length) (hb : ∀ j : Nat, 0 ≤ t.cnt.getD j 0 ∧ t.cnt.getD j 0 ≤ 100000) :
    Calls Try.prog 73 #[.pointer (some ⟨Be, 0, none⟩), .agg #[.bool v.1, .int .i64 v.2]] w fun e w' => (∃ u, e = .returned u) ∧ Sep F W0 w' (x :: cnRN Be Bm R N (t.cn (t.a.up v).cnt)) := by
  obtain ⟨g, hg⟩ : ∃ g, w.heap.size = g := ⟨_, rfl⟩
  have hS0 := h.blkAtF 107 #[.bool v.1, .int .i64 v.2] hg
  obtain ⟨W, hW⟩ : ∃ W, w.alloc (.cells #[.bool v.1, .int .i64 v.2] 107) = W := ⟨_, rfl⟩
  rw [hW] at hS0
  obtain ⟨x1, x2, x3, x4⟩ := hS0.rules 0 (g := g) (t := 107) rfl
  have x5 := (x1 0).trans (show _ = some (.bool v.1) from rfl)
  have x6 := (x1 1).trans (show _ = some (.int .i64 v.2) from rfl)
  obtain ⟨-, -, k3, -, -, -, -, k8⟩ := cn_cells (pre := [_, x]) hS0
  obtain ⟨bv, mv⟩ := v
  dsimp only at hv x5 x6 hW hS0 ⊢
  cases bv with
  | false =>
    have HS := hide (show Sep F W0 W (x :: cnRN Be Bm R N (t.cn (t.a.up (false, mv)).cnt)) from hS0.sub (List.sublist_cons_self _ _))
    clear h hS0 x1 k3 hv hb
    go_enter Try.func73, Try.ntmps73
    go_wp2_with fail
    go_end0
    exact ⟨⟨_, rfl⟩, HS.out⟩
  | true =>
    obtain ⟨z, rfl, hz⟩ := hv rfl
    obtain ⟨gc, hA, e0, e1, e2, e3⟩ := cn_int (pre := [_, x]) hS0 hz
    have hbz := hb z
    have HS := hide (show Sep F W0 (W.setCell ⟨gc, z, none⟩ (.int .i64 (t.cnt.getD z 0 + 1))) (x :: cnRN Be Bm R N (t.cn (t.a.up (true, (z : Int))).cnt)) from
      (cn_set (pre := [_, x]) hS0 hA z (t.cnt.getD z 0 + 1)).sub (List.sublist_cons_self _ _))
    have n1 : g ≠ gc := fun e => hS0.other (a := 3) (b := 0) rfl rfl (by omega) gc (by rw [hA]; rfl) e.symm
    rw [hA] at k3
    obtain ⟨m, hm⟩ : ∃ m, t.cnt.length = m := ⟨_, rfl⟩
    obtain ⟨y, hy⟩ : ∃ y, t.cnt.getD z 0 = y := ⟨_, rfl⟩
    rw [hm] at k3 hz hn
    rw [hy] at e0 hbz HS
    have t1 : decide ((z : Int) < 0) = false := by simp
    have t2 : decide ((m : Int) ≤ (z : Int)) = false := by simp; omega
    have t3 : (0 : Int) ≤ (z : Int) := by omega
    have t4 : (z : Int) < (m : Int) := by omega
    have t5 : IntKind.i64.wrap (y + 1) = y + 1 := wrapC64 _ (by omega) (by omega)
    have hmx : Try.prog.follows .mixedOrders = true := by kernel_rfl
    have n2 : gc ≠ g := fun e => n1 e.symm
    have n3 : Be ≠ gc := fun e => e3 e.symm
    clear h hS0 x1 hv hb hbz hm hy
    go_enter Try.func73, Try.ntmps73
    go_wp2_with fail
    go_still_tail 9, hmx
    go_wp2_with fail
    go_end0
    exact ⟨⟨_, rfl⟩, HS.out.drew⟩
end Go.Proofs.Ytjphckfbbiehdaa
