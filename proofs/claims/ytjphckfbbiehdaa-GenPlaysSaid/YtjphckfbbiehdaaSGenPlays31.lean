/- A memory with colours, plain: what the reference does, and that it tells the same. A memory with colours, plain: a script; both tell the same. The reference: two rows of counts are the same. -/
import Derived.Test.YtjphckfbbiehdaaSGenPlays30
import Derived.Test.YtjphckfbbiehdaaSGenPlays16
import Derived.Test.YtjphckfbbiehdaaSGenPlays20
set_option linter.unusedSimpArgs false
set_option linter.unusedVariables false
namespace Go.Proofs.Ytjphckfbbiehdaa
open Go.RowKit
structure RT where
  σ : MSt
  gone : List Bool
  cols : List Int
  gl : List Int
def maskL (objs : List (List Val)) (gone : List Bool) : List (Option (List Val)) := List.zipWith (fun fs g => if g = true then none else some fs) objs gone
def goneO (gone : List Bool) : List (Option Unit) := gone.map fun g => if g = true then none else some ()
def thereG (gone : List Bool) : List Int := thereL (goneO gone)
def RT.a (t : RT) : CoA := ⟨t.σ.regs, maskL t.σ.objs t.gone, t.cols, t.gl⟩
def goneL (gone : List Bool) (xs : List Int) : List Bool := xs.foldl (fun l x => l.set x.toNat true) gone
def rtBars (q : Nat) (d : DoV) (t : RT) : List Int := if d.k = 4 then (barOf q).f t.cols (rgA t.σ.regs d.to).2.toNat ((obA t.σ.objs (rgA t.σ.regs d.to).2).getD d.at_.toNat (false, 0)) (rgA t.σ.regs d.fr) else t.cols
def rtStep (q : Nat) (d : DoV) (t : RT) : OutV × RT :=
  if d.k = 8 then
    if greyF (thereG t.gone) t.cols = -1 then (⟨7, false, 0⟩, t)
    else (⟨0, false, 0⟩, { t with cols := (shadeL t.cols (obA t.σ.objs (greyF (thereG t.gone) t.cols))).set (greyF (thereG t.gone) t.cols).toNat 2 })
  else if d.k = 9 then
    if greyF (thereG t.gone) (shadeL t.cols t.σ.regs) ≠ -1 then (⟨8, false, 0⟩, { t with cols := shadeL t.cols t.σ.regs })
    else (⟨0, false, 0⟩, ⟨t.σ, goneL t.gone (whitesF (thereG t.gone) (shadeL t.cols t.σ.regs)), beginC t.cols.length t.σ.regs, t.gl ++ whitesF (thereG t.gone) (shadeL t.cols t.σ.regs)⟩)
  else if rWrong d t.σ ≠ 0 then (⟨rWrong d t.σ, false, 0⟩, t)
  else if d.k = 1 ∧ 24 ≤ (thereG t.gone).length then (⟨6, false, 0⟩, t)
  else ((stepK d t.σ).1, ⟨(stepK d t.σ).2, if d.k = 1 then t.gone ++ [false] else t.gone, if d.k = 1 then t.cols ++ [2] else rtBars q d t, t.gl⟩)
theorem maskL_get (objs : List (List Val)) (gone : List Bool) (h : gone.length = objs.length) (i : Nat) : (maskL objs gone)[i]? = (objs[i]?).map fun fs => if gone.getD i false = true then none else some fs := by
  unfold maskL
  rw [List.getElem?_zipWith]
  rcases Nat.lt_or_ge i objs.length with hl | hl
  · rw [List.getElem?_eq_getElem hl, List.getElem?_eq_getElem (show i < gone.length by omega), List.getD_eq_getElem?_getD, List.getElem?_eq_getElem (show i < gone.length by omega)]
    rfl
  · rw [List.getElem?_eq_none hl]; rfl
theorem maskL_len (objs : List (List Val)) (gone : List Bool) (h : gone.length = objs.length) : (maskL objs gone).length = objs.length := by
  unfold maskL; rw [List.length_zipWith]; omega
theorem thereL_congr {α β : Type} {l : List (Option α)} {m : List (Option β)} (hl : l.length = m.length) (h : ∀ i : Nat, (l.getD i none).isSome = (m.getD i none).isSome) : thereL l = thereL m := by
  unfold thereL thereK
  rw [hl]
  congr 1
  exact List.filter_congr fun i _ => h i
theorem thereL_mask (objs : List (List Val)) (gone : List Bool) (h : gone.length = objs.length) : thereL (maskL objs gone) = thereG gone := by
  unfold thereG
  refine thereL_congr (by rw [maskL_len _ _ h]; unfold goneO; rw [List.length_map, h]) fun i => ?_
  rw [List.getD_eq_getElem?_getD, List.getD_eq_getElem?_getD, maskL_get _ _ h]
  unfold goneO
  rw [List.getElem?_map]
  rcases Nat.lt_or_ge i objs.length with hl | hl
  · rw [List.getElem?_eq_getElem hl, List.getElem?_eq_getElem (show i < gone.length by omega), List.getD_eq_getElem?_getD, List.getElem?_eq_getElem (show i < gone.length by omega)]
    cases gone[i]'(by omega) <;> rfl
  · rw [List.getElem?_eq_none hl, List.getElem?_eq_none (show gone.length ≤ i by omega)]; rfl
theorem maskL_drop (objs : List (List Val)) (gone : List Bool) (h : gone.length = objs.length) (i : Nat) : (maskL objs gone).set i none = maskL objs (gone.set i true) := by
  refine List.ext_getElem? fun j => ?_
  rw [maskL_get _ _ (by rw [List.length_set]; exact h), List.getElem?_set, maskL_get _ _ h, maskL_len _ _ h, List.getD_eq_getElem?_getD, List.getD_eq_getElem?_getD, List.getElem?_set]
  by_cases e : i = j
  · subst e
    rw [if_pos rfl, if_pos rfl]
    by_cases hl : i < objs.length
    · rw [if_pos hl, if_pos (by omega), List.getElem?_eq_getElem hl]; rfl
    · rw [if_neg hl, List.getElem?_eq_none (by omega)]; rfl
  · rw [if_neg e, if_neg e]
theorem goneL_len (xs : List Int) : ∀ gone : List Bool, (goneL gone xs).length = gone.length := by
  unfold goneL
  induction xs with
  | nil => intro _; rfl
  | cons x xs ih => intro gone; rw [List.foldl_cons, ih, List.length_set]
theorem maskL_drops (objs : List (List Val)) (xs : List Int) : ∀ gone : List Bool, gone.length = objs.length → dropF (maskL objs gone) xs = maskL objs (goneL gone xs) := by
  unfold dropF goneL
  induction xs with
  | nil => intro _ _; rfl
  | cons x xs ih =>
    intro gone h
    rw [List.foldl_cons, List.foldl_cons, maskL_drop _ _ h]
    exact ih _ (by rw [List.length_set]; exact h)
theorem maskL_set (objs : List (List Val)) (gone : List Bool) (h : gone.length = objs.length) (i : Nat) (hg : gone.getD i false = false) (fs : List Val) : (maskL objs gone).set i (some fs) = maskL (objs.set i fs) gone := by
  refine List.ext_getElem? fun j => ?_
  rw [maskL_get _ _ (by rw [List.length_set]; exact h), List.getElem?_set, maskL_get _ _ h, maskL_len _ _ h, List.getElem?_set]
  by_cases e : i = j
  · subst e
    rw [if_pos rfl, if_pos rfl]
    by_cases hl : i < objs.length
    · rw [if_pos hl, if_pos hl, Option.map_some, hg]; rfl
    · rw [if_neg hl, if_neg hl]; rfl
  · rw [if_neg e, if_neg e]
theorem maskL_app (objs : List (List Val)) (gone : List Bool) (h : gone.length = objs.length) (fs : List Val) : maskL objs gone ++ [some fs] = maskL (objs ++ [fs]) (gone ++ [false]) := by
  unfold maskL
  rw [List.zipWith_append (by omega)]
  rfl
theorem rt_fld {t : RT} (hl : t.gone.length = t.σ.objs.length) {i : Nat} {fs : List Val} (h : t.a.fld i = some fs) : t.gone.getD i false = false ∧ obA t.σ.objs (i : Int) = fs ∧ i < t.σ.objs.length := by
  obtain ⟨h1, h2⟩ := CoA.fld_at h
  rw [show t.a.objs = maskL t.σ.objs t.gone from rfl, maskL_get _ _ hl] at h1
  rw [show t.a.objs = maskL t.σ.objs t.gone from rfl, maskL_len _ _ hl] at h2
  rw [List.getElem?_eq_getElem h2, Option.map_some] at h1
  have h3 := Option.some.inj h1
  split at h3
  · cases h3
  · rename_i hg
    refine ⟨by simpa using hg, ?_, h2⟩
    unfold obA
    rw [Int.toNat_natCast, List.getD_eq_getElem?_getD, List.getElem?_eq_getElem h2]
    exact Option.some.inj h3
theorem rt_fErr {t : RT} (hl : t.gone.length = t.σ.objs.length) (ok : CoOk t.a) (r at_ : Int) : coErr t.a (rgA t.σ.regs r) at_ = fErr t.σ.objs (rgA t.σ.regs r) at_ := by
  unfold coErr fErr
  by_cases h : (rgA t.σ.regs r).1 = false
  · rw [if_pos h, if_pos h]
  · rw [if_neg h, if_neg h]
    have hb : (rgA t.σ.regs r).1 = true := by simpa using h
    obtain ⟨i, fs, e, hf⟩ := ok.rg r hb
    have e2 : (rgA t.σ.regs r).2 = (i : Int) := e
    rw [e2, (rt_fld hl hf).2.1, Int.toNat_natCast, hf]
    rfl
theorem rt_co (q : Nat) {t : RT} (hl : t.gone.length = t.σ.objs.length) (ok : CoOk t.a) (d : DoV) : coStep q d t.a = ((rtStep q d t).1, (rtStep q d t).2.a) := by
  have hth : thereL t.a.objs = thereG t.gone := thereL_mask _ _ hl
  have hc : t.a.cols = t.cols := rfl
  have hr : t.a.regs = t.σ.regs := rfl
  unfold coStep rtStep
  by_cases h8 : d.k = 8
  · rw [if_pos h8, if_pos h8]
    unfold coWork
    by_cases hg : greyF (thereL t.a.objs) t.a.cols = -1
    · rw [if_pos hg, if_pos (by rw [← hth]; exact hg)]
    · obtain ⟨i, fs, e, hf, _⟩ := greyF_some hg
      rw [if_neg hg, if_neg (by rw [← hth]; exact hg)]
      rw [hth, hc] at e
      rw [hth, hc, e, (rt_fld hl hf).2.1, Int.toNat_natCast, hf]
      rfl
  rw [if_neg h8, if_neg h8]
  by_cases h9 : d.k = 9
  · rw [if_pos h9, if_pos h9]
    unfold coSweep
    rw [hth, hc, hr]
    split
    · rfl
    · rw [show t.a.objs = maskL t.σ.objs t.gone from rfl, maskL_drops _ _ _ hl]
      rfl
  rw [if_neg h9, if_neg h9]
  unfold coDo
  by_cases hw : wrongM d ≠ 0
  · have hw2 : rWrong d t.σ = wrongM d := by unfold rWrong; rw [if_pos hw]
    rw [if_pos hw, hw2, if_pos hw]
  rw [if_neg hw]
  have hw2 : rWrong d t.σ = if d.k = 4 then fErr t.σ.objs (rgA t.σ.regs d.to) d.at_ else if d.k = 5 then fErr t.σ.objs (rgA t.σ.regs d.fr) d.at_ else 0 := by unfold rWrong; rw [if_neg hw]
  rw [hw2]
  unfold coKst stepK rtBars
  rw [hr]
  by_cases h1 : d.k = 1
  · simp only [if_pos h1, if_neg (show ¬ d.k = 4 by omega), if_neg (show ¬ d.k = 5 by omega), if_neg (show ¬ ((0 : Int) ≠ 0) by simp)]
    unfold coNew
    rw [hth]
    by_cases hf : 24 ≤ (thereG t.gone).length
    · rw [if_pos hf, if_pos (show d.k = 1 ∧ 24 ≤ (thereG t.gone).length from ⟨h1, hf⟩), if_pos (by simp)]
    · rw [if_neg hf, if_neg (show ¬ (d.k = 1 ∧ 24 ≤ (thereG t.gone).length) from fun h => hf h.2)]
      dsimp only
      rw [if_neg (by simp)]
      refine Prod.ext rfl ?_
      show (⟨t.σ.regs.set d.to.toNat (true, ((t.a.objs.length : Nat) : Int)), t.a.objs ++ [some (zeroVs d.n.toNat)], t.a.cols ++ [2], t.a.gone⟩ : CoA) = ⟨_, _, _, _⟩
      rw [show t.a.objs = maskL t.σ.objs t.gone from rfl, maskL_app _ _ hl, maskL_len _ _ hl]
      rfl
  have hn1 : ¬ (d.k = 1 ∧ 24 ≤ (thereG t.gone).length) := fun h => h1 h.1
  by_cases h4 : d.k = 4
  · simp only [if_neg h1, if_neg (show ¬ d.k = 2 by omega), if_neg (show ¬ d.k = 3 by omega), if_pos h4]
    rw [rt_fErr hl ok]
    by_cases hz : fErr t.σ.objs (rgA t.σ.regs d.to) d.at_ ≠ 0
    · rw [if_pos hz, if_pos hz]
    · rw [if_neg hz, if_neg hz, if_neg hn1, if_neg hz]
      have hz0 : coErr t.a (rgA t.a.regs d.to) d.at_ = 0 := by rw [hr, rt_fErr hl ok]; exact not_ne hz
      obtain ⟨i, k, fs, e1, e2, hf, hk⟩ := coErr_zero ok hz0
      rw [hr] at e1
      obtain ⟨g1, g2, g3⟩ := rt_fld hl hf
      refine Prod.ext rfl ?_
      rw [e1, e2]
      dsimp only
      rw [g2, Int.toNat_natCast, Int.toNat_natCast]
      unfold coPut
      rw [hf, Option.getD_some, show t.a.objs = maskL t.σ.objs t.gone from rfl, maskL_set _ _ hl i g1]
      rfl
  by_cases h5 : d.k = 5
  · simp only [if_neg h1, if_neg (show ¬ d.k = 2 by omega), if_neg (show ¬ d.k = 3 by omega), if_neg h4, if_pos h5]
    rw [rt_fErr hl ok]
    by_cases hz : fErr t.σ.objs (rgA t.σ.regs d.fr) d.at_ ≠ 0
    · rw [if_pos hz, if_pos hz]
    · rw [if_neg hz, if_neg hz, if_neg hn1, if_neg hz]
      have hz0 : coErr t.a (rgA t.a.regs d.fr) d.at_ = 0 := by rw [hr, rt_fErr hl ok]; exact not_ne hz
      obtain ⟨i, k, fs, e1, e2, hf, hk⟩ := coErr_zero ok hz0
      rw [hr] at e1
      obtain ⟨g1, g2, g3⟩ := rt_fld hl hf
      refine Prod.ext rfl ?_
      rw [e1, e2]
      dsimp only
      rw [g2, Int.toNat_natCast, hf]
      rfl
  simp only [if_neg h1, if_neg h4, if_neg h5, if_neg (show ¬ ((0 : Int) ≠ 0) by simp), if_neg hn1]
  by_cases h2 : d.k = 2
  · rw [if_pos h2, if_pos h2]; rfl
  rw [if_neg h2, if_neg h2]
  by_cases h3 : d.k = 3
  · rw [if_pos h3, if_pos h3]; rfl
  rw [if_neg h3, if_neg h3]
  by_cases h6 : d.k = 6
  · rw [if_pos h6, if_pos h6]
  rw [if_neg h6, if_neg h6]
  refine Prod.ext ?_ rfl
  by_cases hb : (rgA t.σ.regs d.fr).1 = true
  · obtain ⟨i, fs, e, hf⟩ := ok.rg d.fr hb
    have e2 : (rgA t.σ.regs d.fr).2 = (i : Int) := e
    dsimp only
    rw [if_pos hb, e2, (rt_fld hl hf).2.1, Int.toNat_natCast, hf, if_pos hb]
    rfl
  · dsimp only
    rw [if_neg hb, if_neg hb]
end Go.Proofs.Ytjphckfbbiehdaa

namespace Go.Proofs.Ytjphckfbbiehdaa
open Go.RowKit
structure RtOk (q : Nat) (t : RT) : Prop where
  len : t.gone.length = t.σ.objs.length
  ok : CoOk t.a
  inv : CoInv q t.a
  m : MOk t.σ
theorem stepK_len (d : DoV) (σ : MSt) : (stepK d σ).2.objs.length = σ.objs.length + if d.k = 1 then 1 else 0 := by
  unfold stepK
  by_cases h1 : d.k = 1
  · rw [if_pos h1, if_pos h1]; simp
  rw [if_neg h1, if_neg h1]
  split
  · rfl
  split
  · rfl
  split
  · split <;> simp
  split
  · split <;> simp
  split <;> rfl
theorem stepK_m {d : DoV} {σ : MSt} (h : MOk σ) (hw : rWrong d σ = 0) : MOk (stepK d σ).2 := by
  have h1 := (h.step d).1
  rw [stepM_rw, if_neg (by rw [hw]; simp)] at h1
  exact h1
theorem rtStep_len (q : Nat) (d : DoV) {t : RT} (h : t.gone.length = t.σ.objs.length) : (rtStep q d t).2.gone.length = (rtStep q d t).2.σ.objs.length := by
  unfold rtStep
  by_cases h8 : d.k = 8
  · rw [if_pos h8]; split <;> exact h
  rw [if_neg h8]
  by_cases h9 : d.k = 9
  · rw [if_pos h9]
    split
    · exact h
    · dsimp only; rw [goneL_len]; exact h
  rw [if_neg h9]
  split
  · exact h
  split
  · exact h
  dsimp only
  rw [stepK_len]
  split
  · rw [List.length_append, h]; rfl
  · rw [h]; rfl
theorem rtStep_m (q : Nat) (d : DoV) {t : RT} (h : MOk t.σ) : MOk (rtStep q d t).2.σ := by
  unfold rtStep
  by_cases h8 : d.k = 8
  · rw [if_pos h8]; split <;> exact h
  rw [if_neg h8]
  by_cases h9 : d.k = 9
  · rw [if_pos h9]; split <;> exact h
  rw [if_neg h9]
  by_cases hw : rWrong d t.σ ≠ 0
  · rw [if_pos hw]; exact h
  rw [if_neg hw]
  split
  · exact h
  · refine stepK_m h ?_
    rcases Int.decEq (rWrong d t.σ) 0 with h | h
    · exact absurd h hw
    · exact h
theorem RtOk.n {q : Nat} {t : RT} (h : RtOk q t) : t.a.objs.length = t.σ.objs.length := maskL_len _ _ h.len
theorem RtOk.step {q : Nat} (hq : q = 1 ∨ q = 2 ∨ q = 3) {t : RT} (h : RtOk q t) (hn : t.σ.objs.length < 500) (d : DoV) : RtOk q (rtStep q d t).2 ∧ (rtStep q d t).2.σ.objs.length ≤ t.σ.objs.length + 1 ∧ coStep q d t.a = ((rtStep q d t).1, (rtStep q d t).2.a) := by
  have h1 := rt_co q h.len h.ok d
  obtain ⟨o1, o2, o3⟩ := coStep_ok hq h.ok (by rw [h.n]; exact hn) h.inv d
  rw [h1] at o1 o2 o3
  have hl := rtStep_len q d h.len
  refine ⟨⟨hl, o1, o2, rtStep_m q d h.m⟩, ?_, h1⟩
  rw [h.n, show ((rtStep q d t).1, (rtStep q d t).2.a).2.objs = maskL (rtStep q d t).2.σ.objs (rtStep q d t).2.gone from rfl, maskL_len _ _ hl] at o3
  exact o3
def countsV (l : List (Int × Int)) : List Value := l.flatMap fun p => [.int .i64 p.1, .int .i64 p.2]
theorem countsV_app (a b : List (Int × Int)) : countsV (a ++ b) = countsV a ++ countsV b := by simp [countsV]
theorem countsV_length (l : List (Int × Int)) : (countsV l).length = l.length * 2 := by
  unfold countsV; induction l with
  | nil => rfl
  | cons a l ih => simp [List.flatMap_cons] at ih ⊢; omega
theorem countsV_at (l : List (Int × Int)) (k : Nat) (h : k < l.length) : (countsV l)[k * 2]? = some (.int .i64 l[k].1) ∧ (countsV l)[k * 2 + (0 + 1)]? = some (.int .i64 l[k].2) := by
  unfold countsV
  induction l generalizing k with
  | nil => simp at h
  | cons a l ih =>
    cases k with
    | zero => exact ⟨rfl, rfl⟩
    | succ k =>
      have h2 := ih k (by simpa using h)
      rw [List.flatMap_cons, show (k + 1) * 2 = k * 2 + 1 + 1 from by omega]
      exact h2
end Go.Proofs.Ytjphckfbbiehdaa

namespace Go.Proofs.Ytjphckfbbiehdaa
open Go.RowKit
theorem neq_cnt (w : World) (c n : Int) : (binOp .neq 174 (.agg #[.int .i64 c, .int .i64 n]) (.agg #[.int .i64 c, .int .i64 n])).run Try.prog w = .ok (.bool false) w := by
  have h1 : Try.prog.underlying 174 = some (.struct (Try.prog.fieldsOf 174)) := by kernel_rfl
  have h2 : Try.prog.stoodInHeld 174 = false := by kernel_rfl
  obtain ⟨F, hF⟩ : ∃ F, (Try.prog.fieldsOf 174).toList = F := ⟨_, rfl⟩
  have h5 : F = [F[0]!, F[1]!] := by rw [← hF]; kernel_rfl
  have n1 : (F[0]!).name ≠ "_" := by rw [← hF]; rw [show ((Try.prog.fieldsOf 174).toList[0]!).name = "Object" from by kernel_rfl]; decide
  have n2 : (F[1]!).name ≠ "_" := by rw [← hF]; rw [show ((Try.prog.fieldsOf 174).toList[1]!).name = "N" from by kernel_rfl]; decide
  obtain ⟨t0, ht0⟩ : ∃ t, (F[0]!).type = t := ⟨_, rfl⟩
  obtain ⟨t1, ht1⟩ : ∃ t, (F[1]!).type = t := ⟨_, rfl⟩
  have u0 : ∃ k, Try.prog.underlying t0 = some (.int k) := by rw [← ht0, ← hF]; exact ⟨.i64, by kernel_rfl⟩
  have u1 : ∃ k, Try.prog.underlying t1 = some (.int k) := by rw [← ht1, ← hF]; exact ⟨.i64, by kernel_rfl⟩
  have o0 : ∀ x y, (part t0 #[x, y] (F[0]!).offset).run Try.prog w = .ok x w := fun x y => by rw [← ht0, ← hF]; kernel_rfl
  have o1 : ∀ x y, (part t1 #[x, y] (F[1]!).offset).run Try.prog w = .ok y w := fun x y => by rw [← ht1, ← hF]; kernel_rfl
  rw [run_neq_struct, run_equalIn_agg _ _ _ _ _ h1 h2, hF, h5]
  obtain ⟨k0, u0⟩ := u0
  obtain ⟨k1, u1⟩ := u1
  simp only [Op.eqFields, ht0, ht1, n1, n2, ne_eq, not_false_iff, if_true, Sem.run_ite, Sem.run_bind, o0, o1, Result.andThen_ok, run_equalIn_int w _ _ _ _ _ _ u0, run_equalIn_int w _ _ _ _ _ _ u1]
  simp
theorem guard_cnt (w : World) (x y : Operand) (a b : Array Value) : (eqGuard .neq 174 x y (.agg a) (.agg b)).run Try.prog w = .ok () w :=
  run_eqGuard_agg w .neq _ x y _ _ (by kernel_rfl)
set_option maxRecDepth 100000 in
set_option maxHeartbeats 8000000 in
theorem counts_any (w : World) (A1 A2 : Option Addr) (n c1 c2 : Nat) (os : List (Int × Int)) (hn : n ≤ 1000) (h1 : Rd w (fun _ => True) 2 A1 n (countsV os)) (h2 : Rd w (fun _ => True) 2 A2 n (countsV os)) :
    Calls Try.prog 33 #[.slice A1 n c1, .slice A2 n c2] w fun e w' => e = .returned (.bool true) ∧ Below w.heap.size w w' := by
  have HL := hide (show os.length = n by have := h1.1; rw [countsV_length] at this; omega)
  have hng := neq_cnt
  have hgd := guard_cnt
  go_enter Try.func33, Try.ntmps33
  go_wp2_with fail
  go_loopw [5] (fun s wr => ∃ (k : Nat), k ≤ n ∧ s = .int .i64 k ∧ Below w.heap.size w wr) (fun s _ => n - (intOf s).toNat)
  case atStart => exact ⟨0, by omega, rfl, Below.refl _ _⟩
  case round =>
    obtain ⟨k, hk, rfl, hb⟩ := hrel
    by_cases hlt : k < n
    · have hkl : k < os.length := by rw [HL.out]; exact hlt
      obtain ⟨v0, v1⟩ := countsV_at os k hkl
      obtain ⟨ad, hA, _, had, hc, hd⟩ := (h1.below hb).atN hlt
      obtain ⟨ad2, hA2, _, had2, hc2, hd2⟩ := (h2.below hb).atN hlt
      have e0 := hc _ v0
      have e1 := hd 0 _ v1
      have f0 := hc2 _ v0
      have f1 := hd2 0 _ v1
      obtain ⟨o, ho⟩ : ∃ o, os[k] = o := ⟨_, rfl⟩
      rw [ho] at e0 e1 f0 f1
      obtain ⟨c, m⟩ := o
      dsimp only at e0 e1 f0 f1
      subst hA hA2
      have HB := hide hb
      clear hc hd hc2 hd2 v0 v1 hb ho
      go_wp2_with fail
      go_region_held3 (fun w' => w'.cell? (ad.add (k * 2)) = some (.int .i64 c) ∧ w'.cell? ⟨(ad.add (k * 2)).block, (ad.add (k * 2)).off + 1, none⟩ = some (.int .i64 m) ∧ w'.cell? (ad2.add (k * 2)) = some (.int .i64 c) ∧ w'.cell? ⟨(ad2.add (k * 2)).block, (ad2.add (k * 2)).off + 1, none⟩ = some (.int .i64 m)) (go_keep) (fail)
      all_goals go_wp2_with fail
      all_goals exact ⟨⟨k + 1, by omega, by go_num, HB.out.drew⟩, by simp [intOf]; omega⟩
    · obtain rfl : k = n := by omega
      go_wp2_with fail
      go_ret
      exact ⟨rfl, hb⟩
end Go.Proofs.Ytjphckfbbiehdaa
