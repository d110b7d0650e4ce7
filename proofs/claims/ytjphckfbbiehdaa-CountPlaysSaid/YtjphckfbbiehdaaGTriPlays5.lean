/- A memory with colours, plain: what the reference does, and that it tells the same. A memory with colours, plain: a script; both tell the same. A memory with colours: all white ones go. -/
import Derived.Test.YtjphckfbbiehdaaGTriPlays4
import Derived.Test.YtjphckfbbiehdaaGIdealPlays8
set_option linter.unusedSimpArgs false
set_option linter.unusedVariables false
namespace Go.Proofs.Ytjphckfbbiehdaa
open Go.RowKit

structure RT where
  σ : MSt
  gone : List Bool
  cols : List Int
  gl : List Int
def maskL (objs : List (List Val)) (gone : List Bool) : List (Option (List Val)) := List.zipWith (fun fs g => if g = true then none else some fs) objs gone
def goneO (gone : List Bool) : List (Option Unit) := gone.map fun g => if g = true then none else some ()
def thereG (gone : List Bool) : List Int := thereL (goneO gone)
def RT.a (t : RT) : CoA := ⟨t.σ.regs, maskL t.σ.objs t.gone, t.cols, t.gl⟩
def goneL (gone : List Bool) (xs : List Int) : List Bool := xs.foldl (fun l x => l.set x.toNat true) gone
def rtBars (q : Nat) (d : DoV) (t : RT) : List Int := if d.k = 4 then (barOf q).f t.cols (rgA t.σ.regs d.to).2.toNat ((obA t.σ.objs (rgA t.σ.regs d.to).2).getD d.at_.toNat (false, 0)) (rgA t.σ.regs d.fr) else t.cols
def rtStep (q : Nat) (d : DoV) (t : RT) : OutV × RT :=
  if d.k = 8 then
    if greyF (thereG t.gone) t.cols = -1 then (⟨7, false, 0⟩, t)
    else (⟨0, false, 0⟩, { t with cols := (shadeL t.cols (obA t.σ.objs (greyF (thereG t.gone) t.cols))).set (greyF (thereG t.gone) t.cols).toNat 2 })
  else if d.k = 9 then
    if greyF (thereG t.gone) (shadeL t.cols t.σ.regs) ≠ -1 then (⟨8, false, 0⟩, { t with cols := shadeL t.cols t.σ.regs })
    else (⟨0, false, 0⟩, ⟨t.σ, goneL t.gone (whitesF (thereG t.gone) (shadeL t.cols t.σ.regs)), beginC t.cols.length t.σ.regs, t.gl ++ whitesF (thereG t.gone) (shadeL t.cols t.σ.regs)⟩)
  else if rWrong d t.σ ≠ 0 then (⟨rWrong d t.σ, false, 0⟩, t)
  else if d.k = 1 ∧ 24 ≤ (thereG t.gone).length then (⟨6, false, 0⟩, t)
  else ((stepK d t.σ).1, ⟨(stepK d t.σ).2, if d.k = 1 then t.gone ++ [false] else t.gone, if d.k = 1 then t.cols ++ [2] else rtBars q d t, t.gl⟩)

theorem maskL_get (objs : List (List Val)) (gone : List Bool) (h : gone.length = objs.length) (i : Nat) : (maskL objs gone)[i]? = (objs[i]?).map fun fs => if gone.getD i false = true then none else some fs := by
  unfold maskL
  rw [List.getElem?_zipWith]
  rcases Nat.lt_or_ge i objs.length with hl | hl
  · rw [List.getElem?_eq_getElem hl, List.getElem?_eq_getElem (show i < gone.length by omega), List.getD_eq_getElem?_getD, List.getElem?_eq_getElem (show i < gone.length by omega)]
    rfl
  · rw [List.getElem?_eq_none hl]; rfl
theorem maskL_len (objs : List (List Val)) (gone : List Bool) (h : gone.length = objs.length) : (maskL objs gone).length = objs.length := by
  unfold maskL; rw [List.length_zipWith]; omega
theorem thereL_congr {α β : Type} {l : List (Option α)} {m : List (Option β)} (hl : l.length = m.length) (h : ∀ i : Nat, (l.getD i none).isSome = (m.getD i none).isSome) : thereL l = thereL m := by
  unfold thereL thereK
  rw [hl]
  congr 1
  exact List.filter_congr fun i _ => h i
theorem thereL_mask (objs : List (List Val)) (gone : List Bool) (h : gone.length = objs.length) : thereL (maskL objs gone) = thereG gone := by
  unfold thereG
  refine thereL_congr (by rw [maskL_len _ _ h]; unfold goneO; rw [List.length_map, h]) fun i => ?_
  rw [List.getD_eq_getElem?_getD, List.getD_eq_getElem?_getD, maskL_get _ _ h]
  unfold goneO
  rw [List.getElem?_map]
  rcases Nat.lt_or_ge i objs.length with hl | hl
  · rw [List.getElem?_eq_getElem hl, List.getElem?_eq_getElem (show i < gone.length by omega), List.getD_eq_getElem?_getD, List.getElem?_eq_getElem (show i < gone.length by omega)]
    cases gone[i]'(by omega) <;> rfl
  · rw [List.getElem?_eq_none hl, List.getElem?_eq_none (show gone.length ≤ i by omega)]; rfl
theorem maskL_drop (objs : List (List Val)) (gone : List Bool) (h : gone.length = objs.length) (i : Nat) : (maskL objs gone).set i none = maskL objs (gone.set i true) := by
  refine List.ext_getElem? fun j => ?_
  rw [maskL_get _ _ (by rw [List.length_set]; exact h), List.getElem?_set, maskL_get _ _ h, maskL_len _ _ h, List.getD_eq_getElem?_getD, List.getD_eq_getElem?_getD, List.getElem?_set]
  by_cases e : i = j
  · subst e
    rw [if_pos rfl, if_pos rfl]
    by_cases hl : i < objs.length
    · rw [if_pos hl, if_pos (by omega), List.getElem?_eq_getElem hl]; rfl
    · rw [if_neg hl, List.getElem?_eq_none (by omega)]; rfl
  · rw [if_neg e, if_neg e]
theorem goneL_len (xs : List Int) : ∀ gone : List Bool, (goneL gone xs).length = gone.length := by
  unfold goneL
  induction xs with
  | nil => intro _; rfl
  | cons x xs ih => intro gone; rw [List.foldl_cons, ih, List.length_set]
theorem maskL_drops (objs : List (List Val)) (xs : List Int) : ∀ gone : List Bool, gone.length = objs.length → dropF (maskL objs gone) xs = maskL objs (goneL gone xs) := by
  unfold dropF goneL
  induction xs with
  | nil => intro _ _; rfl
  | cons x xs ih =>
    intro gone h
    rw [List.foldl_cons, List.foldl_cons, maskL_drop _ _ h]
    exact ih _ (by rw [List.length_set]; exact h)
theorem maskL_set (objs : List (List Val)) (gone : List Bool) (h : gone.length = objs.length) (i : Nat) (hg : gone.getD i false = false) (fs : List Val) : (maskL objs gone).set i (some fs) = maskL (objs.set i fs) gone := by
  refine List.ext_getElem? fun j => ?_
  rw [maskL_get _ _ (by rw [List.length_set]; exact h), List.getElem?_set, maskL_get _ _ h, maskL_len _ _ h, List.getElem?_set]
  by_cases e : i = j
  · subst e
    rw [if_pos rfl, if_pos rfl]
    by_cases hl : i < objs.length
    · rw [if_pos hl, if_pos hl, Option.map_some, hg]; rfl
    · rw [if_neg hl, if_neg hl]; rfl
  · rw [if_neg e, if_neg e]
theorem maskL_app (objs : List (List Val)) (gone : List Bool) (h : gone.length = objs.length) (fs : List Val) : maskL objs gone ++ [some fs] = maskL (objs ++ [fs]) (gone ++ [false]) := by
  unfold maskL
  rw [List.zipWith_append (by omega)]
  rfl
theorem rt_fld {t : RT} (hl : t.gone.length = t.σ.objs.length) {i : Nat} {fs : List Val} (h : t.a.fld i = some fs) : t.gone.getD i false = false ∧ obA t.σ.objs (i : Int) = fs ∧ i < t.σ.objs.length := by
  obtain ⟨h1, h2⟩ := CoA.fld_at h
  rw [show t.a.objs = maskL t.σ.objs t.gone from rfl, maskL_get _ _ hl] at h1
  rw [show t.a.objs = maskL t.σ.objs t.gone from rfl, maskL_len _ _ hl] at h2
  rw [List.getElem?_eq_getElem h2, Option.map_some] at h1
  have h3 := Option.some.inj h1
  split at h3
  · cases h3
  · rename_i hg
    refine ⟨by simpa using hg, ?_, h2⟩
    unfold obA
    rw [Int.toNat_natCast, List.getD_eq_getElem?_getD, List.getElem?_eq_getElem h2]
    exact Option.some.inj h3
theorem rt_fErr {t : RT} (hl : t.gone.length = t.σ.objs.length) (ok : CoOk t.a) (r at_ : Int) : coErr t.a (rgA t.σ.regs r) at_ = fErr t.σ.objs (rgA t.σ.regs r) at_ := by
  unfold coErr fErr
  by_cases h : (rgA t.σ.regs r).1 = false
  · rw [if_pos h, if_pos h]
  · rw [if_neg h, if_neg h]
    have hb : (rgA t.σ.regs r).1 = true := by simpa using h
    obtain ⟨i, fs, e, hf⟩ := ok.rg r hb
    have e2 : (rgA t.σ.regs r).2 = (i : Int) := e
    rw [e2, (rt_fld hl hf).2.1, Int.toNat_natCast, hf]
    rfl
theorem rt_co (q : Nat) {t : RT} (hl : t.gone.length = t.σ.objs.length) (ok : CoOk t.a) (d : DoV) : coStep q d t.a = ((rtStep q d t).1, (rtStep q d t).2.a) := by
  have hth : thereL t.a.objs = thereG t.gone := thereL_mask _ _ hl
  have hc : t.a.cols = t.cols := rfl
  have hr : t.a.regs = t.σ.regs := rfl
  unfold coStep rtStep
  by_cases h8 : d.k = 8
  · rw [if_pos h8, if_pos h8]
    unfold coWork
    by_cases hg : greyF (thereL t.a.objs) t.a.cols = -1
    · rw [if_pos hg, if_pos (by rw [← hth]; exact hg)]
    · obtain ⟨i, fs, e, hf, _⟩ := greyF_some hg
      rw [if_neg hg, if_neg (by rw [← hth]; exact hg)]
      rw [hth, hc] at e
      rw [hth, hc, e, (rt_fld hl hf).2.1, Int.toNat_natCast, hf]
      rfl
  rw [if_neg h8, if_neg h8]
  by_cases h9 : d.k = 9
  · rw [if_pos h9, if_pos h9]
    unfold coSweep
    rw [hth, hc, hr]
    split
    · rfl
    · rw [show t.a.objs = maskL t.σ.objs t.gone from rfl, maskL_drops _ _ _ hl]
      rfl
  rw [if_neg h9, if_neg h9]
  unfold coDo
  by_cases hw : wrongM d ≠ 0
  · have hw2 : rWrong d t.σ = wrongM d := by unfold rWrong; rw [if_pos hw]
    rw [if_pos hw, hw2, if_pos hw]
  rw [if_neg hw]
  have hw2 : rWrong d t.σ = if d.k = 4 then fErr t.σ.objs (rgA t.σ.regs d.to) d.at_ else if d.k = 5 then fErr t.σ.objs (rgA t.σ.regs d.fr) d.at_ else 0 := by unfold rWrong; rw [if_neg hw]
  rw [hw2]
  unfold coKst stepK rtBars
  rw [hr]
  by_cases h1 : d.k = 1
  · simp only [if_pos h1, if_neg (show ¬ d.k = 4 by omega), if_neg (show ¬ d.k = 5 by omega), if_neg (show ¬ ((0 : Int) ≠ 0) by simp)]
    unfold coNew
    rw [hth]
    by_cases hf : 24 ≤ (thereG t.gone).length
    · rw [if_pos hf, if_pos (show d.k = 1 ∧ 24 ≤ (thereG t.gone).length from ⟨h1, hf⟩), if_pos (by simp)]
    · rw [if_neg hf, if_neg (show ¬ (d.k = 1 ∧ 24 ≤ (thereG t.gone).length) from fun h => hf h.2)]
      dsimp only
      rw [if_neg (by simp)]
      refine Prod.ext rfl ?_
      show (⟨t.σ.regs.set d.to.toNat (true, ((t.a.objs.length : Nat) : Int)), t.a.objs ++ [some (zeroVs d.n.toNat)], t.a.cols ++ [2], t.a.gone⟩ : CoA) = ⟨_, _, _, _⟩
      rw [show t.a.objs = maskL t.σ.objs t.gone from rfl, maskL_app _ _ hl, maskL_len _ _ hl]
      rfl
  have hn1 : ¬ (d.k = 1 ∧ 24 ≤ (thereG t.gone).length) := fun h => h1 h.1
  by_cases h4 : d.k = 4
  · simp only [if_neg h1, if_neg (show ¬ d.k = 2 by omega), if_neg (show ¬ d.k = 3 by omega), if_pos h4]
    rw [rt_fErr hl ok]
    by_cases hz : fErr t.σ.objs (rgA t.σ.regs d.to) d.at_ ≠ 0
    · rw [if_pos hz, if_pos hz]
    · rw [if_neg hz, if_neg hz, if_neg hn1, if_neg hz]
      have hz0 : coErr t.a (rgA t.a.regs d.to) d.at_ = 0 := by rw [hr, rt_fErr hl ok]; exact not_ne hz
      obtain ⟨i, k, fs, e1, e2, hf, hk⟩ := coErr_zero ok hz0
      rw [hr] at e1
      obtain ⟨g1, g2, g3⟩ := rt_fld hl hf
      refine Prod.ext rfl ?_
      rw [e1, e2]
      dsimp only
      rw [g2, Int.toNat_natCast, Int.toNat_natCast]
      unfold coPut
      rw [hf, Option.getD_some, show t.a.objs = maskL t.σ.objs t.gone from rfl, maskL_set _ _ hl i g1]
      rfl
  by_cases h5 : d.k = 5
  · simp only [if_neg h1, if_neg (show ¬ d.k = 2 by omega), if_neg (show ¬ d.k = 3 by omega), if_neg h4, if_pos h5]
    rw [rt_fErr hl ok]
    by_cases hz : fErr t.σ.objs (rgA t.σ.regs d.fr) d.at_ ≠ 0
    · rw [if_pos hz, if_pos hz]
    · rw [if_neg hz, if_neg hz, if_neg hn1, if_neg hz]
      have hz0 : coErr t.a (rgA t.a.regs d.fr) d.at_ = 0 := by rw [hr, rt_fErr hl ok]; exact not_ne hz
      obtain ⟨i, k, fs, e1, e2, hf, hk⟩ := coErr_zero ok hz0
      rw [hr] at e1
      obtain ⟨g1, g2, g3⟩ := rt_fld hl hf
      refine Prod.ext rfl ?_
      rw [e1, e2]
      dsimp only
      rw [g2, Int.toNat_natCast, hf]
      rfl
  simp only [if_neg h1, if_neg h4, if_neg h5, if_neg (show ¬ ((0 : Int) ≠ 0) by simp), if_neg hn1]
  by_cases h2 : d.k = 2
  · rw [if_pos h2, if_pos h2]; rfl
  rw [if_neg h2, if_neg h2]
  by_cases h3 : d.k = 3
  · rw [if_pos h3, if_pos h3]; rfl
  rw [if_neg h3, if_neg h3]
  by_cases h6 : d.k = 6
  · rw [if_pos h6, if_pos h6]
  rw [if_neg h6, if_neg h6]
  refine Prod.ext ?_ rfl
  by_cases hb : (rgA t.σ.regs d.fr).1 = true
  · obtain ⟨i, fs, e, hf⟩ := ok.rg d.fr hb
    have e2 : (rgA t.σ.regs d.fr).2 = (i : Int) := e
    dsimp only
    rw [if_pos hb, e2, (rt_fld hl hf).2.1, Int.toNat_natCast, hf, if_pos hb]
    rfl
  · dsimp only
    rw [if_neg hb, if_neg hb]
end Go.Proofs.Ytjphckfbbiehdaa

namespace Go.Proofs.Ytjphckfbbiehdaa
open Go.RowKit

structure RtOk (q : Nat) (t : RT) : Prop where
  len : t.gone.length = t.σ.objs.length
  ok : CoOk t.a
  inv : CoInv q t.a
  m : MOk t.σ
theorem stepK_len (d : DoV) (σ : MSt) : (stepK d σ).2.objs.length = σ.objs.length + if d.k = 1 then 1 else 0 := by
  unfold stepK
  by_cases h1 : d.k = 1
  · rw [if_pos h1, if_pos h1]; simp
  rw [if_neg h1, if_neg h1]
  split
  · rfl
  split
  · rfl
  split
  · split <;> simp
  split
  · split <;> simp
  split <;> rfl
theorem stepK_m {d : DoV} {σ : MSt} (h : MOk σ) (hw : rWrong d σ = 0) : MOk (stepK d σ).2 := by
  have h1 := (h.step d).1
  rw [stepM_rw, if_neg (by rw [hw]; simp)] at h1
  exact h1
theorem rtStep_len (q : Nat) (d : DoV) {t : RT} (h : t.gone.length = t.σ.objs.length) : (rtStep q d t).2.gone.length = (rtStep q d t).2.σ.objs.length := by
  unfold rtStep
  by_cases h8 : d.k = 8
  · rw [if_pos h8]; split <;> exact h
  rw [if_neg h8]
  by_cases h9 : d.k = 9
  · rw [if_pos h9]
    split
    · exact h
    · dsimp only; rw [goneL_len]; exact h
  rw [if_neg h9]
  split
  · exact h
  split
  · exact h
  dsimp only
  rw [stepK_len]
  split
  · rw [List.length_append, h]; rfl
  · rw [h]; rfl
theorem rtStep_m (q : Nat) (d : DoV) {t : RT} (h : MOk t.σ) : MOk (rtStep q d t).2.σ := by
  unfold rtStep
  by_cases h8 : d.k = 8
  · rw [if_pos h8]; split <;> exact h
  rw [if_neg h8]
  by_cases h9 : d.k = 9
  · rw [if_pos h9]; split <;> exact h
  rw [if_neg h9]
  by_cases hw : rWrong d t.σ ≠ 0
  · rw [if_pos hw]; exact h
  rw [if_neg hw]
  split
  · exact h
  · refine stepK_m h ?_
    rcases Int.decEq (rWrong d t.σ) 0 with h | h
    · exact absurd h hw
    · exact h
theorem RtOk.n {q : Nat} {t : RT} (h : RtOk q t) : t.a.objs.length = t.σ.objs.length := maskL_len _ _ h.len
theorem RtOk.step {q : Nat} (hq : q = 1 ∨ q = 2 ∨ q = 3) {t : RT} (h : RtOk q t) (hn : t.σ.objs.length < 500) (d : DoV) : RtOk q (rtStep q d t).2 ∧ (rtStep q d t).2.σ.objs.length ≤ t.σ.objs.length + 1 ∧ coStep q d t.a = ((rtStep q d t).1, (rtStep q d t).2.a) := by
  have h1 := rt_co q h.len h.ok d
  obtain ⟨o1, o2, o3⟩ := coStep_ok hq h.ok (by rw [h.n]; exact hn) h.inv d
  rw [h1] at o1 o2 o3
  have hl := rtStep_len q d h.len
  refine ⟨⟨hl, o1, o2, rtStep_m q d h.m⟩, ?_, h1⟩
  rw [h.n, show ((rtStep q d t).1, (rtStep q d t).2.a).2.objs = maskL (rtStep q d t).2.σ.objs (rtStep q d t).2.gone from rfl, maskL_len _ _ hl] at o3
  exact o3
def rtStp (q : Nat) (p : List OutV × RT) (d : DoV) : List OutV × RT := (p.1 ++ [(rtStep q d p.2).1], (rtStep q d p.2).2)
def coStp (q : Nat) (p : List OutV × CoA) (d : DoV) : List OutV × CoA := (p.1 ++ [(coStep q d p.2).1], (coStep q d p.2).2)
def rtRun (q : Nat) (ds : List DoV) (t : RT) : List OutV × RT := ds.foldl (rtStp q) ([], t)
def coRun (q : Nat) (ds : List DoV) (a : CoA) : List OutV × CoA := ds.foldl (coStp q) ([], a)
theorem rtRun_snoc (q : Nat) (ds : List DoV) (d : DoV) (t : RT) : rtRun q (ds ++ [d]) t = ((rtRun q ds t).1 ++ [(rtStep q d (rtRun q ds t).2).1], (rtStep q d (rtRun q ds t).2).2) := by
  unfold rtRun; rw [List.foldl_append]; rfl
theorem coRun_snoc (q : Nat) (ds : List DoV) (d : DoV) (a : CoA) : coRun q (ds ++ [d]) a = ((coRun q ds a).1 ++ [(coStep q d (coRun q ds a).2).1], (coStep q d (coRun q ds a).2).2) := by
  unfold coRun; rw [List.foldl_append]; rfl
theorem rtRun_ok0 {q : Nat} (hq : q = 1 ∨ q = 2 ∨ q = 3) (ds : List DoV) : ∀ p : List OutV × RT, RtOk q p.2 → p.2.σ.objs.length + ds.length ≤ 400 →
    RtOk q (ds.foldl (rtStp q) p).2 ∧ (ds.foldl (rtStp q) p).2.σ.objs.length ≤ p.2.σ.objs.length + ds.length ∧ (ds.foldl (rtStp q) p).1.length = p.1.length + ds.length ∧
    ds.foldl (coStp q) (p.1, p.2.a) = ((ds.foldl (rtStp q) p).1, (ds.foldl (rtStp q) p).2.a) := by
  induction ds with
  | nil => intro p h _; exact ⟨h, by simp, by simp, rfl⟩
  | cons d ds ih =>
    intro p h hn
    rw [List.length_cons] at hn
    obtain ⟨h1, h2, h3⟩ := h.step hq (by omega) d
    obtain ⟨i1, i2, i3, i4⟩ := ih (rtStp q p d) h1 (by show (rtStep q d p.2).2.σ.objs.length + _ ≤ _; omega)
    rw [List.foldl_cons, List.foldl_cons]
    refine ⟨i1, ?_, ?_, ?_⟩
    · have : (rtStp q p d).2.σ.objs.length ≤ p.2.σ.objs.length + 1 := h2
      rw [List.length_cons]; omega
    · have : (rtStp q p d).1.length = p.1.length + 1 := by simp [rtStp]
      rw [List.length_cons]; omega
    · have e : coStp q (p.1, p.2.a) d = ((rtStp q p d).1, (rtStp q p d).2.a) := by unfold coStp rtStp; rw [h3]
      rw [e]
      exact i4
theorem rtRun_ok {q : Nat} (hq : q = 1 ∨ q = 2 ∨ q = 3) (ds : List DoV) {t : RT} (h : RtOk q t) (hn : t.σ.objs.length + ds.length ≤ 400) :
    RtOk q (rtRun q ds t).2 ∧ (rtRun q ds t).2.σ.objs.length ≤ t.σ.objs.length + ds.length ∧ (rtRun q ds t).1.length = ds.length ∧ coRun q ds t.a = ((rtRun q ds t).1, (rtRun q ds t).2.a) := by
  have h1 := rtRun_ok0 hq ds ([], t) h hn
  simpa [rtRun, coRun] using h1
/-- The beginning. -/
def rt0 (σ : MSt) : RT := ⟨σ, List.replicate σ.objs.length false, beginC σ.objs.length σ.regs, []⟩
def co0 (σ : MSt) : CoA := ⟨σ.regs, σ.objs.map some, beginC σ.objs.length σ.regs, []⟩
theorem rt0_a (σ : MSt) : (rt0 σ).a = co0 σ := by
  unfold rt0 co0 RT.a
  dsimp only
  congr 1
  refine List.ext_getElem? fun i => ?_
  rw [maskL_get _ _ (by simp), List.getElem?_map]
  congr 1
  funext fs
  rw [if_neg]
  rw [List.getD_eq_getElem?_getD, List.getElem?_replicate]
  split <;> simp
theorem rt0_ok (q : Nat) {σ : MSt} (h : MOk σ) (hn : σ.objs.length ≤ 400) : RtOk q (rt0 σ) := by
  have hl : (rt0 σ).gone.length = (rt0 σ).σ.objs.length := by unfold rt0; simp
  have hfl : ∀ i fs, (co0 σ).fld i = some fs → σ.objs[i]? = some fs := fun i fs hf => by
    have h1 := (CoA.fld_at hf).1
    unfold co0 at h1
    dsimp only at h1
    rw [List.getElem?_map] at h1
    cases h2 : σ.objs[i]? with
    | none => rw [h2] at h1; cases h1
    | some x => rw [h2] at h1; exact congrArg some (Option.some.inj (Option.some.inj h1))
  have hvk : ∀ v, (v.1 = true → 0 ≤ v.2 ∧ v.2 < (σ.objs.length : Int)) → (co0 σ).vok v := fun v hv h1 => by
    obtain ⟨h2, h3⟩ := hv h1
    obtain ⟨i, hi⟩ := int_nat h2
    have hil : i < σ.objs.length := by omega
    exact ⟨i, σ.objs[i], hi, by unfold CoA.fld co0; simp [List.getElem?_eq_getElem hil]⟩
  have hok : CoOk (co0 σ) := ⟨h.r8, by unfold co0; dsimp only; rw [beginC_len, List.length_map], by unfold co0; dsimp only; rw [List.length_map]; omega, fun v hv => hvk v (h.vr v hv),
    fun i fs v hf hv => hvk v (h.vo fs (List.mem_of_getElem? (hfl i fs hf)) v hv), fun i fs hf => h.f4 fs (List.mem_of_getElem? (hfl i fs hf))⟩
  refine ⟨hl, by rw [rt0_a]; exact hok, ?_, h⟩
  rw [rt0_a]
  exact CoInv.begin_ q hok.vr (by unfold co0; simp)
def coThere (a : CoA) : List (Int × Int) := (thereL a.objs).map fun x => (x, a.cols.getD x.toNat 0)
def rtThere (t : RT) : List (Int × Int) := (thereG t.gone).map fun x => (x, t.cols.getD x.toNat 0)
theorem rtThere_eq {t : RT} (h : t.gone.length = t.σ.objs.length) : coThere t.a = rtThere t := by
  unfold coThere rtThere
  rw [show t.a.objs = maskL t.σ.objs t.gone from rfl, thereL_mask _ _ h]
  rfl
def countsV (l : List (Int × Int)) : List Value := l.flatMap fun p => [.int .i64 p.1, .int .i64 p.2]
theorem countsV_app (a b : List (Int × Int)) : countsV (a ++ b) = countsV a ++ countsV b := by simp [countsV]
theorem countsV_length (l : List (Int × Int)) : (countsV l).length = l.length * 2 := by
  unfold countsV; induction l with
  | nil => rfl
  | cons a l ih => simp [List.flatMap_cons] at ih ⊢; omega
theorem countsV_at (l : List (Int × Int)) (k : Nat) (h : k < l.length) : (countsV l)[k * 2]? = some (.int .i64 l[k].1) ∧ (countsV l)[k * 2 + (0 + 1)]? = some (.int .i64 l[k].2) := by
  unfold countsV
  induction l generalizing k with
  | nil => simp at h
  | cons a l ih =>
    cases k with
    | zero => exact ⟨rfl, rfl⟩
    | succ k =>
      have h2 := ih k (by simpa using h)
      rw [List.flatMap_cons, show (k + 1) * 2 = k * 2 + 1 + 1 from by omega]
      exact h2
end Go.Proofs.Ytjphckfbbiehdaa

namespace Go.Proofs.Ytjphckfbbiehdaa
open Go.RowKit

theorem len8 {α : Type} {l : List α} (h : l.length = 8) : ∃ a0 a1 a2 a3 a4 a5 a6 a7, l = [a0, a1, a2, a3, a4, a5, a6, a7] := by
  match l, h with
  | [a0, a1, a2, a3, a4, a5, a6, a7], _ => exact ⟨_, _, _, _, _, _, _, _, rfl⟩

theorem idx8_0 (b0 b1 b2 b3 b4 b5 b6 b7 : Bool) (m0 m1 m2 m3 m4 m5 m6 m7 : Int) (X : World) : Sem.run Try.prog (Instr.index 109 (.agg #[.bool b0, .int .i64 m0, .bool b1, .int .i64 m1, .bool b2, .int .i64 m2, .bool b3, .int .i64 m3, .bool b4, .int .i64 m4, .bool b5, .int .i64 m5, .bool b6, .int .i64 m6, .bool b7, .int .i64 m7]) (.int .i64 0)) X = .ok (.agg #[.bool b0, .int .i64 m0]) X := by kernel_rfl
theorem idx8_1 (b0 b1 b2 b3 b4 b5 b6 b7 : Bool) (m0 m1 m2 m3 m4 m5 m6 m7 : Int) (X : World) : Sem.run Try.prog (Instr.index 109 (.agg #[.bool b0, .int .i64 m0, .bool b1, .int .i64 m1, .bool b2, .int .i64 m2, .bool b3, .int .i64 m3, .bool b4, .int .i64 m4, .bool b5, .int .i64 m5, .bool b6, .int .i64 m6, .bool b7, .int .i64 m7]) (.int .i64 1)) X = .ok (.agg #[.bool b1, .int .i64 m1]) X := by kernel_rfl
theorem idx8_2 (b0 b1 b2 b3 b4 b5 b6 b7 : Bool) (m0 m1 m2 m3 m4 m5 m6 m7 : Int) (X : World) : Sem.run Try.prog (Instr.index 109 (.agg #[.bool b0, .int .i64 m0, .bool b1, .int .i64 m1, .bool b2, .int .i64 m2, .bool b3, .int .i64 m3, .bool b4, .int .i64 m4, .bool b5, .int .i64 m5, .bool b6, .int .i64 m6, .bool b7, .int .i64 m7]) (.int .i64 2)) X = .ok (.agg #[.bool b2, .int .i64 m2]) X := by kernel_rfl
theorem idx8_3 (b0 b1 b2 b3 b4 b5 b6 b7 : Bool) (m0 m1 m2 m3 m4 m5 m6 m7 : Int) (X : World) : Sem.run Try.prog (Instr.index 109 (.agg #[.bool b0, .int .i64 m0, .bool b1, .int .i64 m1, .bool b2, .int .i64 m2, .bool b3, .int .i64 m3, .bool b4, .int .i64 m4, .bool b5, .int .i64 m5, .bool b6, .int .i64 m6, .bool b7, .int .i64 m7]) (.int .i64 3)) X = .ok (.agg #[.bool b3, .int .i64 m3]) X := by kernel_rfl
theorem idx8_4 (b0 b1 b2 b3 b4 b5 b6 b7 : Bool) (m0 m1 m2 m3 m4 m5 m6 m7 : Int) (X : World) : Sem.run Try.prog (Instr.index 109 (.agg #[.bool b0, .int .i64 m0, .bool b1, .int .i64 m1, .bool b2, .int .i64 m2, .bool b3, .int .i64 m3, .bool b4, .int .i64 m4, .bool b5, .int .i64 m5, .bool b6, .int .i64 m6, .bool b7, .int .i64 m7]) (.int .i64 4)) X = .ok (.agg #[.bool b4, .int .i64 m4]) X := by kernel_rfl
theorem idx8_5 (b0 b1 b2 b3 b4 b5 b6 b7 : Bool) (m0 m1 m2 m3 m4 m5 m6 m7 : Int) (X : World) : Sem.run Try.prog (Instr.index 109 (.agg #[.bool b0, .int .i64 m0, .bool b1, .int .i64 m1, .bool b2, .int .i64 m2, .bool b3, .int .i64 m3, .bool b4, .int .i64 m4, .bool b5, .int .i64 m5, .bool b6, .int .i64 m6, .bool b7, .int .i64 m7]) (.int .i64 5)) X = .ok (.agg #[.bool b5, .int .i64 m5]) X := by kernel_rfl
theorem idx8_6 (b0 b1 b2 b3 b4 b5 b6 b7 : Bool) (m0 m1 m2 m3 m4 m5 m6 m7 : Int) (X : World) : Sem.run Try.prog (Instr.index 109 (.agg #[.bool b0, .int .i64 m0, .bool b1, .int .i64 m1, .bool b2, .int .i64 m2, .bool b3, .int .i64 m3, .bool b4, .int .i64 m4, .bool b5, .int .i64 m5, .bool b6, .int .i64 m6, .bool b7, .int .i64 m7]) (.int .i64 6)) X = .ok (.agg #[.bool b6, .int .i64 m6]) X := by kernel_rfl
theorem idx8_7 (b0 b1 b2 b3 b4 b5 b6 b7 : Bool) (m0 m1 m2 m3 m4 m5 m6 m7 : Int) (X : World) : Sem.run Try.prog (Instr.index 109 (.agg #[.bool b0, .int .i64 m0, .bool b1, .int .i64 m1, .bool b2, .int .i64 m2, .bool b3, .int .i64 m3, .bool b4, .int .i64 m4, .bool b5, .int .i64 m5, .bool b6, .int .i64 m6, .bool b7, .int .i64 m7]) (.int .i64 7)) X = .ok (.agg #[.bool b7, .int .i64 m7]) X := by kernel_rfl
theorem idx8 (b0 b1 b2 b3 b4 b5 b6 b7 : Bool) (m0 m1 m2 m3 m4 m5 m6 m7 : Int) (k : Nat) (v : Val) (h : [(b0, m0), (b1, m1), (b2, m2), (b3, m3), (b4, m4), (b5, m5), (b6, m6), (b7, m7)][k]? = some v) (X : World) :
    Sem.run Try.prog (Instr.index 109 (.agg #[.bool b0, .int .i64 m0, .bool b1, .int .i64 m1, .bool b2, .int .i64 m2, .bool b3, .int .i64 m3, .bool b4, .int .i64 m4, .bool b5, .int .i64 m5, .bool b6, .int .i64 m6, .bool b7, .int .i64 m7]) (.int .i64 k)) X = .ok (.agg #[.bool v.1, .int .i64 v.2]) X := by
  match k, h with
  | 0, h => cases h; exact idx8_0 b0 b1 b2 b3 b4 b5 b6 b7 m0 m1 m2 m3 m4 m5 m6 m7 X
  | 1, h => cases h; exact idx8_1 b0 b1 b2 b3 b4 b5 b6 b7 m0 m1 m2 m3 m4 m5 m6 m7 X
  | 2, h => cases h; exact idx8_2 b0 b1 b2 b3 b4 b5 b6 b7 m0 m1 m2 m3 m4 m5 m6 m7 X
  | 3, h => cases h; exact idx8_3 b0 b1 b2 b3 b4 b5 b6 b7 m0 m1 m2 m3 m4 m5 m6 m7 X
  | 4, h => cases h; exact idx8_4 b0 b1 b2 b3 b4 b5 b6 b7 m0 m1 m2 m3 m4 m5 m6 m7 X
  | 5, h => cases h; exact idx8_5 b0 b1 b2 b3 b4 b5 b6 b7 m0 m1 m2 m3 m4 m5 m6 m7 X
  | 6, h => cases h; exact idx8_6 b0 b1 b2 b3 b4 b5 b6 b7 m0 m1 m2 m3 m4 m5 m6 m7 X
  | 7, h => cases h; exact idx8_7 b0 b1 b2 b3 b4 b5 b6 b7 m0 m1 m2 m3 m4 m5 m6 m7 X
  | k + 8, h => simp at h

def CoS.drop (s : CoS) (i : Nat) : CoS := { s with oj := { s.oj with ps := s.oj.ps.set i none } }
theorem co_dropv (bv : Value) (s : CoS) (i : Nat) : coC bv (s.drop i) = coC bv s := by
  unfold coC CoS.drop Oj.v
  dsimp only
  rw [List.length_set]
/-- An object goes. -/
theorem co_drop {F : Nat → Prop} {W w : World} {Be : Nat} {bv : Value} {s : CoS} {R : Item} (h : Sep F W w [coI Be bv s, R]) {i ga : Nat} (hi : i < s.oj.ps.length) (hA : s.oj.As = some ⟨ga, 0, none⟩) : Sep F W (w.setCell ⟨ga, i, none⟩ (.pointer none)) [coI Be bv (s.drop i), R] := by
  have h1 : Sep F W w (coR Be bv s ++ [R]) := Sep.split (l := coR Be bv s) h
  have h2 := h1.perm (l := [R, blkI Be 213 (coC bv s), rowI 3 1 s.Ac s.cols.length s.cc (ints s.cols), rowI 3 1 s.Ag s.gone.length s.cg (ints s.gone), rowI 170 1 s.oj.As s.oj.ps.length s.oj.c (s.oj.ps.map ptrV)] ++ s.oj.ps.map opI) (List.perm_append_comm (l₁ := coR Be bv s) (l₂ := [R]))
  rw [hA] at h2
  have h3 := h2.store 4 (g := ga) rfl i (.pointer none)
  simp only [List.cons_append, List.nil_append, List.set_cons_succ, List.set_cons_zero] at h3
  have h4 : Sep F W (w.setCell ⟨ga, i, none⟩ (.pointer none)) ([R, blkI Be 213 (coC bv s), rowI 3 1 s.Ac s.cols.length s.cc (ints s.cols), rowI 3 1 s.Ag s.gone.length s.cg (ints s.gone), rowI 170 1 (some ⟨ga, 0, none⟩) s.oj.ps.length s.oj.c ((s.oj.ps.map ptrV).set i (.pointer none))] ++ s.oj.ps.map opI) := h3
  have h5 := h4.focus (j := i) (t := s.oj.ps[i]) (List.getElem?_eq_getElem hi)
  have h6 := h5.step 0 rfl (Chg.refl _ _) (opI none) ⟨fun i hi => by simp at hi, .nil⟩ (fun g hg => by obtain ⟨_, h, _⟩ := hg; simp at h)
  have h7 := Sep.unfocus (l := s.oj.ps) (j := i) h6 hi
  have h8 := h7.perm (l := coR Be bv (s.drop i) ++ [R]) (by
    have e : coR Be bv (s.drop i) = [blkI Be 213 (coC bv s), rowI 3 1 s.Ac s.cols.length s.cc (ints s.cols), rowI 3 1 s.Ag s.gone.length s.cg (ints s.gone), rowI 170 1 (some ⟨ga, 0, none⟩) s.oj.ps.length s.oj.c ((s.oj.ps.map ptrV).set i (.pointer none))] ++ (s.oj.ps.set i none).map opI := by
      unfold coR
      rw [co_dropv]
      unfold ojL CoS.drop
      dsimp only
      rw [List.length_set, List.map_set, hA]
      rfl
    rw [e]
    exact List.perm_append_comm (l₁ := [R]) (l₂ := [_, _, _, _] ++ _))
  exact Sep.join (l := coR Be bv (s.drop i)) h8
theorem co_drop_abs (s : CoS) (i : Nat) : (s.drop i).oj.abs = s.oj.abs.set i none := by
  unfold CoS.drop Oj.abs
  dsimp only
  rw [List.map_set]
  rfl
theorem dropF_snoc (objs : List (Option (List Val))) (xs : List Int) (x : Int) : dropF objs (xs ++ [x]) = (dropF objs xs).set x.toNat none := by unfold dropF; rw [List.foldl_append]; rfl
theorem whitesF_snoc (xs C : List Int) (x : Int) : whitesF (xs ++ [x]) C = whitesF xs C ++ if C.getD x.toNat 0 = 0 then [x] else [] := by
  unfold whitesF
  rw [List.filter_append, List.filter_cons, List.filter_nil]
  by_cases h : C.getD x.toNat 0 = 0
  · rw [if_pos h, if_pos (by simpa using h)]
  · rw [if_neg h, if_neg (by simpa using h)]

set_option maxRecDepth 100000 in
set_option maxHeartbeats 16000000 in
theorem sweep_any {Be : Nat} {bv : Value} {s : CoS} {w : World} (hP : (coI Be bv s).P w) (hl : s.cols.length = s.oj.ps.length) (hn : s.oj.ps.length ≤ 1000) (hgl : s.gone.length ≤ 100000) {regs : List Val} (h8 : regs.length = 8) (hv : ∀ v ∈ regs, vin s.cols.length v) :
    Calls Try.prog 98 #[.pointer (some ⟨Be, 0, none⟩), .agg (vals regs).toArray] w fun e w' =>
      (greyF (thereL s.oj.ps) (shadeL s.cols regs) ≠ -1 ∧ e = .returned (.int .i64 8) ∧ Sep (coI Be bv s).fp w w' [coI Be bv (s.col (shadeL s.cols regs))]) ∨
      (greyF (thereL s.oj.ps) (shadeL s.cols regs) = -1 ∧ e = .returned (.int .i64 0) ∧ ∃ s' : CoS, s'.oj.abs = dropF s.oj.abs (whitesF (thereL s.oj.ps) (shadeL s.cols regs)) ∧ s'.cols = beginC s.cols.length regs ∧ s'.gone = s.gone ++ whitesF (thereL s.oj.ps) (shadeL s.cols regs) ∧ Sep (coI Be bv s).fp w w' [coI Be bv s']) := by
  obtain ⟨F, hF⟩ : ∃ F, (coI Be bv s).fp = F := ⟨_, rfl⟩
  obtain ⟨g, hg⟩ : ∃ g, w.heap.size = g := ⟨_, rfl⟩
  have HS0 := hide ((Sep.start hP).blkAt 109 (vals regs).toArray hg)
  rw [hF] at HS0 ⊢
  have HV := hide hv
  have HL := hide hl
  have HN := hide hn
  have HGL := hide hgl
  have HCB := hide (fun (s2 : CoS) (X : World) (hP2 : (coI Be bv s2).P X) (hn2 : s2.cols.length ≤ 1000) (hv2 : ∀ v ∈ regs, vin s2.cols.length v) => begin_any hP2 hn2 h8 hv2)
  obtain ⟨⟨b0, m0⟩, ⟨b1, m1⟩, ⟨b2, m2⟩, ⟨b3, m3⟩, ⟨b4, m4⟩, ⟨b5, m5⟩, ⟨b6, m6⟩, ⟨b7, m7⟩, hr⟩ := len8 h8
  have hvr : (vals regs).toArray = #[.bool b0, .int .i64 m0, .bool b1, .int .i64 m1, .bool b2, .int .i64 m2, .bool b3, .int .i64 m3, .bool b4, .int .i64 m4, .bool b5, .int .i64 m5, .bool b6, .int .i64 m6, .bool b7, .int .i64 m7] := by rw [hr]; rfl
  rw [hvr] at HS0 HCB ⊢
  have HSTEP := hide (fun (k : Nat) (v : Val) (hk : regs[k]? = some v) (X : World) (h : Sep F w X [coI Be bv (s.col (shadeL s.cols (regs.take k))), blkI g 109 #[.bool b0, .int .i64 m0, .bool b1, .int .i64 m1, .bool b2, .int .i64 m2, .bool b3, .int .i64 m3, .bool b4, .int .i64 m4, .bool b5, .int .i64 m5, .bool b6, .int .i64 m6, .bool b7, .int .i64 m7]]) =>
    (shade_any (s := s.col (shadeL s.cols (regs.take k))) (h.get 0 rfl) (by show (shadeL _ _).length ≤ _; rw [shadeL_len]; omega) v (by show vin (shadeL _ _).length v; rw [shadeL_len]; exact hv v (List.mem_of_getElem? hk))).mono fun e w' (h2 : _ ∧ Sep _ X w' _) =>
      show (∃ u, e = .returned u) ∧ Sep F w w' [coI Be bv (s.col (shadeL s.cols (regs.take (k + 1)))), blkI g 109 #[.bool b0, .int .i64 m0, .bool b1, .int .i64 m1, .bool b2, .int .i64 m2, .bool b3, .int .i64 m3, .bool b4, .int .i64 m4, .bool b5, .int .i64 m5, .bool b6, .int .i64 m6, .bool b7, .int .i64 m7]] from ⟨h2.1, by
        have h3 := h.call 0 rfl h2.2
        rw [List.take_add_one, hk]
        show Sep F w w' [coI Be bv (s.col (shadeL s.cols (regs.take k ++ [v]))), _]
        rw [shadeL_snoc]
        exact h3⟩)
  have HIDX := hide (fun (k : Nat) (v : Val) (hk : regs[k]? = some v) (X : World) => idx8 b0 b1 b2 b3 b4 b5 b6 b7 m0 m1 m2 m3 m4 m5 m6 m7 k v (hr ▸ hk) X)
  have HG0 := hide hg
  have H8 := hide h8
  have HLC := hide (shadeL_len s.cols regs)
  obtain ⟨C, hC⟩ : ∃ c, shadeL s.cols regs = c := ⟨_, rfl⟩
  have HC := hide hC
  obtain ⟨L, hL⟩ : ∃ l, thereL s.oj.ps = l := ⟨_, rfl⟩
  have HLL := hide hL
  obtain ⟨x, hx⟩ : ∃ x, greyF L C = x := ⟨_, rfl⟩
  have HX := hide hx
  rw [hC] at HLC ⊢
  rw [hL, hx]
  clear hP hv hF hl hn hgl hvr hr h8 hC hL hx
  go_enter Try.func98, Try.ntmps98
  go_wp2_with fail
  obtain ⟨arr, harr⟩ : ∃ a, (#[.bool b0, .int .i64 m0, .bool b1, .int .i64 m1, .bool b2, .int .i64 m2, .bool b3, .int .i64 m3, .bool b4, .int .i64 m4, .bool b5, .int .i64 m5, .bool b6, .int .i64 m6, .bool b7, .int .i64 m7] : Array Value) = a := ⟨_, rfl⟩
  have HARR := hide harr
  rw [harr] at HIDX HS0 HSTEP HCB ⊢
  clear harr hg
  go_loopw [10] (fun i wr => ∃ k : Nat, k ≤ 8 ∧ i = .int .i64 k ∧ Sep F w wr [coI Be bv (s.col (shadeL s.cols (regs.take k))), blkI g 109 arr]) (fun i _ => 8 - (intOf i).toNat)
  case atStart => exact ⟨0, by omega, rfl, HS0.out⟩
  case round =>
    clear HS0
    obtain ⟨k, hk, rfl, hS⟩ := hrel
    by_cases hlt : k < 8
    · have hkr : k < regs.length := by rw [H8.out]; exact hlt
      obtain ⟨v, hv⟩ : ∃ v, regs[k]? = some v := ⟨_, List.getElem?_eq_getElem hkr⟩
      have C := hide (HSTEP.out k v hv)
      have I := hide (HIDX.out k v hv)
      obtain ⟨vb, vm⟩ := v
      dsimp only at C I
      have HS := hide hS
      clear hS hv hkr
      go_wp2_with fail
      rw [I.out]
      go_wp2_with fail
      refine (C.out _ (HS.out.alloc (.cells #[.bool vb, .int .i64 vm] 107))).mono ?_
      rintro e w2 ⟨⟨u, rfl⟩, hS2⟩
      have HS2 := hide hS2
      clear hS2 C HS
      go_wp2_with fail
      go_roundw
      case rel => exact ⟨k + 1, by omega, by go_num, HS2.out⟩
      case measure => simp [intOf]; omega
    · obtain rfl : k = 8 := by omega
      have hall : regs.take 8 = regs := List.take_of_length_le (by rw [H8.out]; exact Nat.le_refl _)
      rw [hall, HC.out] at hS
      have CG := grey_any (s := s.col C) (hS.get 0 rfl) (by show C.length = _; rw [HLC.out]; exact HL.out) HN.out
      have hth : greyF (thereL (s.col C).oj.ps) (s.col C).cols = greyF (thereL s.oj.ps) C := rfl
      rw [hth, HLL.out, HX.out] at CG
      have HS := hide hS
      clear hth hS hall HSTEP HIDX
      by_cases hg : x = -1
      · subst hg
        have HCG := hide CG
        clear CG
        go_wp2_with fail
        refine HCG.out.mono ?_
        rintro e w1 ⟨rfl, hb⟩
        have hS1 := HS.out.below hb
        obtain ⟨q0, _, q1⟩ := co_01 (hS1.get 0 rfl)
        replace q0 : w1.cell? ⟨Be, 0, none⟩ = some (.slice s.oj.As s.oj.ps.length s.oj.c) := q0
        have CT := oThere_any w1 s.oj.As s.oj.ps.length s.oj.c s.oj.ps HN.out (((Sep.start (hS1.get 0 rfl)).flat).rd_ 3 rfl)
        rw [HLL.out] at CT
        have HCT := hide CT
        have HTN := hide (fun x (h : x ∈ L) => thereL_nat (l := s.oj.ps) (x := x) (by rw [HLL.out]; exact h))
        have HS1 := hide hS1
        obtain ⟨N, hN⟩ : ∃ n, s.oj.ps.length = n := ⟨_, rfl⟩
        rw [hN] at q0 HCT HTN HN HL
        have HNN := hide hN
        have hN1000 := HN.out
        clear hb hS1 CT HCG HS hN
        go_wp2_with fail
        refine HCT.out.mono ?_
        rintro e w2 ⟨A, c1, rfl, hP2⟩
        have hS2 := HS1.out.snocNew hP2.below_ _ (hP2.get 0 rfl) (fun g hg => (hP2.lo 0 rfl g hg).resolve_left (fun h => h))
        have hll : L.length ≤ 1000 := by
          have h1 := thereK_len s.oj.ps s.oj.ps.length
          have h2 : L.length = (thereK s.oj.ps s.oj.ps.length).length := by rw [← HLL.out]; rfl
          have h3 := HNN.out
          omega
        obtain ⟨m, hm⟩ : ∃ m, L.length = m := ⟨_, rfl⟩
        rw [hm] at hS2 hll ⊢
        have HM := hide hm
        have HS2 := hide hS2
        clear hP2 hS2 HS1 HCT hm q0 q1
        go_wp2_with fail
        go_loopw [26] (fun i wr => ∃ (k : Nat) (s2 : CoS), k ≤ m ∧ i = .int .i64 k ∧ Hid (s2.cols = C ∧ s2.oj.abs = dropF s.oj.abs (whitesF (L.take k) C) ∧ s2.gone = s.gone ++ whitesF (L.take k) C) ∧ Sep F w wr [coI Be bv s2, blkI g 109 arr, rowI 3 1 A m c1 (ints L)]) (fun i _ => m - (intOf i).toNat)
        case atStart => exact ⟨0, s.col C, by omega, rfl, ⟨rfl, rfl, by simp [whitesF, CoS.col]⟩, HS2.out⟩
        case round =>
          clear HS2
          obtain ⟨k, s2, hk, rfl, HI, hS⟩ := hrel
          have hps : s2.oj.ps.length = N := by have h1 := congrArg List.length HI.out.2.1; rw [dropF_len, oj_lenabs, oj_lenabs] at h1; rw [h1]; exact HNN.out
          have hcl : s2.cols.length = N := by rw [HI.out.1, HLC.out]; exact HL.out
          by_cases hlt : k < m
          · have hkl : k < L.length := by rw [HM.out]; exact hlt
            obtain ⟨ad, hA, _, had, hc⟩ := (hS.rd_ 2 rfl).at_ hlt
            have e0 := hc (.int .i64 L[k]) (by simp [ints, List.getElem?_eq_getElem hkl])
            have hT := List.take_succ_eq_append_getElem hkl
            have hmem : L[k] ∈ L := List.getElem_mem hkl
            obtain ⟨x, hx⟩ : ∃ x, L[k] = x := ⟨_, rfl⟩
            rw [hx] at e0 hT hmem
            obtain ⟨z, rfl, hz⟩ := HTN.out x hmem
            have hzN : z < N := hz
            have hW := whitesF_snoc (L.take k) C (z : Int)
            rw [← hT, Int.toNat_natCast] at hW
            obtain ⟨gc, hAc, d0, d1, _, d3, d4, _⟩ := co_cell (hS.get 0 rfl) (z := z) (by omega)
            rw [hcl] at d0
            obtain ⟨y, hy⟩ : ∃ y, C.getD z 0 = y := ⟨_, rfl⟩
            rw [HI.out.1, hy] at d1
            rw [hy] at hW
            have HW := hide hW
            have t1 : decide ((z : Int) < 0) = false := by simp
            have t2 : decide ((N : Int) ≤ (z : Int)) = false := by simp; omega
            have t3 : (0 : Int) ≤ (z : Int) := by omega
            have t4 : (z : Int) < (N : Int) := by omega
            have HS := hide hS
            obtain ⟨ccc, hccc⟩ : ∃ c, s2.cc = c := ⟨_, rfl⟩
            rw [hccc] at d0
            subst hA
            by_cases hy0 : y = 0
            · subst hy0
              rw [if_pos rfl] at hW
              have hS3 : Sep F w wr [coI Be bv s2, allI [blkI g 109 arr, rowI 3 1 (some ad) m c1 (ints L)]] := by
                have h1 := hS.perm (l := [blkI g 109 arr, rowI 3 1 (some ad) m c1 (ints L)] ++ [coI Be bv s2]) (List.perm_append_comm (l₁ := [_]) (l₂ := [_, _]))
                exact (Sep.join (l := [_, _]) h1).perm (List.Perm.swap _ _ _)
              have hS3f := (Sep.start (hS.get 0 rfl)).flat
              obtain ⟨ga, hga⟩ := hown_addr (show wr.ownsRow 0 170 1 (.slice s2.oj.As s2.oj.ps.length s2.oj.c) s2.oj.ps.length _ from hS3f.get 3 rfl) (by omega)
              obtain ⟨p0, _, p1⟩ := co_01 (hS.get 0 rfl)
              rw [hga, hps] at p0
              have hgaI : (rowI 170 1 s2.oj.As s2.oj.ps.length s2.oj.c (s2.oj.ps.map ptrV)).fp ga := by show (Value.slice s2.oj.As s2.oj.ps.length s2.oj.c).ownBlock = some ga; rw [hga]; rfl
              have p2 : ga < wr.heap.size := hS3f.hi 3 rfl ga hgaI
              have p3 : wr.frozen? ⟨ga, z, none⟩ = false := by
                have ho : wr.ownsRow 0 170 1 (.slice s2.oj.As s2.oj.ps.length s2.oj.c) s2.oj.ps.length _ := hS3f.get 3 rfl
                rw [hga] at ho
                exact ho.frozenAt _
              have p4 : wr.cell? ⟨ga, z, none⟩ = some (ptrV (s2.oj.ps[z]'(by omega))) := by
                have ho : wr.ownsRow 0 170 1 (.slice s2.oj.As s2.oj.ps.length s2.oj.c) s2.oj.ps.length _ := hS3f.get 3 rfl
                obtain ⟨ad2, hA2, _, _, hc2⟩ := (Rd.of_own (D := fun _ => True) ho (fun _ _ => trivial)).at_ (k := z) (by omega)
                have h5 := hc2 (ptrV (s2.oj.ps[z]'(by omega))) (by simp [List.getElem?_eq_getElem (show z < s2.oj.ps.length by omega)])
                obtain rfl : (⟨ga, 0, none⟩ : Addr) = ad2 := by rw [hga] at hA2; injection hA2
                rw [hraddr0] at h5
                exact h5
              obtain ⟨pv, hpv⟩ : ∃ v, ptrV (s2.oj.ps[z]'(by omega)) = v := ⟨_, rfl⟩
              rw [hpv] at p4
              have hS4 := co_drop hS3 (i := z) (by omega) hga
              have hS5 : Sep F w (wr.setCell ⟨ga, z, none⟩ (.pointer none)) (coR Be bv (s2.drop z) ++ [allI [blkI g 109 arr, rowI 3 1 (some ad) m c1 (ints L)]]) := Sep.split (l := coR Be bv (s2.drop z)) hS4
              have n1 : ga ≠ Be := fun e => hS3f.other (a := 3) (b := 0) rfl rfl (by omega) ga hgaI e
              have n2 : Be ≠ ga := fun e => n1 e.symm
              obtain ⟨r1, r2, r3, _⟩ := hS5.rules 0 (g := Be) (t := 213) rfl
              have r5 := (r1 3).trans (show _ = some (.slice s2.Ag s2.gone.length s2.cg) from rfl)
              obtain ⟨oc, hoc⟩ : ∃ c, s2.oj.c = c := ⟨_, rfl⟩
              rw [hoc] at p0
              obtain ⟨gl2, hgl2⟩ : ∃ c, s2.gone.length = c := ⟨_, rfl⟩
              have hgl3 : gl2 ≤ 200000 := by
                rw [← hgl2, HI.out.2.2, List.length_append]
                have h1 := List.length_filter_le (fun x => decide (C.getD x.toNat 0 = 0)) (L.take k)
                have h2 : (L.take k).length ≤ L.length := by rw [List.length_take]; omega
                have h3 := HGL.out
                unfold whitesF
                have h4 := HM.out
                omega
              rw [hgl2] at r5
              have hS6 : Sep F w (wr.setCell ⟨ga, z, none⟩ (.pointer none)) (blkI Be 213 (coC bv (s2.drop z)) :: rowI 3 1 s2.Ac s2.cols.length s2.cc (ints s2.cols) :: rowI 3 1 s2.Ag gl2 s2.cg (ints s2.gone) :: (ojL (s2.drop z).oj ++ [allI [blkI g 109 arr, rowI 3 1 (some ad) m c1 (ints L)]])) := by rw [← hgl2]; exact hS5
              obtain ⟨u1, _, _, _⟩ := hS3f.rules 0 (g := Be) (t := 213) rfl
              have u5 := (u1 3).trans (show _ = some (.slice s2.Ag s2.gone.length s2.cg) from rfl)
              rw [hgl2] at u5
              have HS6 := hide hS6
              have HG2 := hide hgl2
              clear hc hT hmem hx hy hccc hS hS3 hS3f hgaI hS4 hS5 hS6 r1 r2 r3 r5 u1 hpv hoc hgl2 hW hga hps hcl hAc HS
              go_wp2_with (first
                | (at_builtin
                   refine wpList_app1 (cs := #[.int .i64 z]) rfl (.tmp 48) (.tmp 50) 35 rfl (F := F) (W := w) sInt (items := _ :: _ :: _ :: _) HS6.out 2 (n := gl2) rfl rfl rfl (by simp) rfl rfl (by omega) ?_
                   intro A7 c7 w7 hS7 hC7
                   obtain ⟨k1, k2, k3, _⟩ := hS7.rules 0 (g := Be) (t := 213) rfl))
              have hS8 := hS7.set_ 0 (g := Be) (t := 213) rfl 3 (.slice A7 (gl2 + 1) c7)
              have HFIN := hide (show Sep F w (w7.setCell ⟨Be, 3, none⟩ (.slice A7 (gl2 + 1) c7)) [coI Be bv ⟨(s2.drop z).oj, s2.Ac, s2.cc, s2.cols, A7, c7, s2.gone ++ [(z : Int)]⟩, blkI g 109 arr, rowI 3 1 (some ad) m c1 (ints L)] from by
                have h9 : Sep F w (w7.setCell ⟨Be, 3, none⟩ (.slice A7 (gl2 + 1) c7)) (coR Be bv ⟨(s2.drop z).oj, s2.Ac, s2.cc, s2.cols, A7, c7, s2.gone ++ [(z : Int)]⟩ ++ [allI [blkI g 109 arr, rowI 3 1 (some ad) m c1 (ints L)]]) := by
                  unfold coR coC
                  dsimp only
                  rw [List.length_append, List.length_singleton, HG2.out, show ints (s2.gone ++ [(z : Int)]) = ints s2.gone ++ [.int .i64 z] from by simp [ints]]
                  exact hS8
                have h10 := (Sep.join (l := coR Be bv ⟨(s2.drop z).oj, s2.Ac, s2.cc, s2.cols, A7, c7, s2.gone ++ [(z : Int)]⟩) h9).perm (List.Perm.swap _ _ _)
                exact (Sep.split (l := [_, _]) h10).perm (List.perm_append_comm (l₁ := [_, _]) (l₂ := [_])))
              clear hS7 hC7 hS8 k1
              go_roundw
              case rel =>
                have hw : whitesF (L.take (k + 1)) C = whitesF (L.take k) C ++ [(z : Int)] := by
                  have h := HW.out
                  simpa using h
                exact ⟨k + 1, ⟨(s2.drop z).oj, s2.Ac, s2.cc, s2.cols, A7, c7, s2.gone ++ [(z : Int)]⟩, by omega, by go_num, ⟨HI.out.1, by rw [hw, dropF_snoc, ← HI.out.2.1, Int.toNat_natCast]; exact co_drop_abs s2 z, by rw [hw, ← List.append_assoc, ← HI.out.2.2]⟩, HFIN.out⟩
              case measure => simp [intOf]; omega
            · have y1 : (y == 0) = false := by simp [hy0]
              rw [if_neg hy0, List.append_nil] at hW
              have HW2 := hide hW
              clear hc hT hmem hx hy hccc hS hW hps hcl hy0 hAc HW
              go_wp2_with fail
              go_roundw
              case rel => exact ⟨k + 1, s2, by omega, by go_num, by rw [HW2.out]; exact HI.out, HS.out⟩
              case measure => simp [intOf]; omega
          · obtain rfl : k = m := by omega
            have hI := HI.out
            rw [List.take_of_length_le (by rw [HM.out]; exact Nat.le_refl _)] at hI
            have HI2 := hide hI
            have CB := HCB.out s2 wr (hS.get 0 rfl) (by omega) (fun v hv => by rw [hcl]; have h1 := HV.out v hv; rw [HL.out] at h1; exact h1)
            have HB := hide CB
            have HS := hide hS
            obtain ⟨r1, r2, r3, _⟩ := hS.rules 1 (g := g) (t := 109) rfl
            rw [← HARR.out] at r1 HB
            have f0 := (r1 0).trans (show _ = some (.bool b0) from rfl)
            have f1 := (r1 1).trans (show _ = some (.int .i64 m0) from rfl)
            have f2 := (r1 2).trans (show _ = some (.bool b1) from rfl)
            have f3 := (r1 3).trans (show _ = some (.int .i64 m1) from rfl)
            have f4 := (r1 4).trans (show _ = some (.bool b2) from rfl)
            have f5 := (r1 5).trans (show _ = some (.int .i64 m2) from rfl)
            have f6 := (r1 6).trans (show _ = some (.bool b3) from rfl)
            have f7 := (r1 7).trans (show _ = some (.int .i64 m3) from rfl)
            have f8 := (r1 8).trans (show _ = some (.bool b4) from rfl)
            have f9 := (r1 9).trans (show _ = some (.int .i64 m4) from rfl)
            have f10 := (r1 10).trans (show _ = some (.bool b5) from rfl)
            have f11 := (r1 11).trans (show _ = some (.int .i64 m5) from rfl)
            have f12 := (r1 12).trans (show _ = some (.bool b6) from rfl)
            have f13 := (r1 13).trans (show _ = some (.int .i64 m6) from rfl)
            have f14 := (r1 14).trans (show _ = some (.bool b7) from rfl)
            have f15 := (r1 15).trans (show _ = some (.int .i64 m7) from rfl)
            clear hI CB hS r1 HI HCB
            go_wp2_with fail
            refine HB.out.mono ?_
            rintro e w3 ⟨⟨u, rfl⟩, hP3⟩
            have HS3 := hide (HS.out.call 0 rfl hP3)
            clear hP3 HS HB f0 f1 f2 f3 f4 f5 f6 f7 f8 f9 f10 f11 f12 f13 f14 f15
            go_wp2_with fail
            go_ret
            refine ⟨rfl, s2.col (beginC s2.cols.length regs), HI2.out.2.1, ?_, HI2.out.2.2, HS3.out.sub (List.sublist_append_left [_] [_, _])⟩
            show beginC s2.cols.length regs = _
            rw [HI2.out.1, HLC.out]
      · have hi : ∃ i : Nat, x = (i : Int) := by
          have h1 := HX.out
          rw [← HLL.out] at h1
          obtain ⟨i, _, e, _⟩ := greyF_at (l := s.oj.ps) (cols := C) (by rw [h1]; exact hg)
          exact ⟨i, h1.symm.trans e⟩
        obtain ⟨i, rfl⟩ := hi
        have t5 : decide ((0 : Int) ≤ (i : Int)) = true := by simp
        have HGG := hide hg
        have HCG := hide CG
        clear CG hg
        go_wp2_with fail
        refine HCG.out.mono ?_
        rintro e w1 ⟨rfl, hb⟩
        have HS1 := hide (HS.out.below hb)
        clear hb HCG HS
        go_wp2_with fail
        go_ret
        exact .inl ⟨HGG.out, rfl, HS1.out.sub (List.sublist_append_left [_] [_])⟩
end Go.Proofs.Ytjphckfbbiehdaa
