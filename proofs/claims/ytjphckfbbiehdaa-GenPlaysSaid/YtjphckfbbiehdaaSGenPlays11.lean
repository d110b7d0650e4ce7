/- A memory with colours as a machine's memory. A memory with colours: a barrier by its number; one grey object's work. -/
import Derived.Test.YtjphckfbbiehdaaSGenPlays6
import Derived.Test.YtjphckfbbiehdaaSGenPlays10
set_option linter.unusedSimpArgs false
set_option linter.unusedVariables false
namespace Go.Proofs.Ytjphckfbbiehdaa
open Go.RowKit
structure CoA where
  regs : List Val
  objs : List (Option (List Val))
  cols : List Int
  gone : List Int
def CoA.fld (a : CoA) (i : Nat) : Option (List Val) := (a.objs[i]?).getD none
def CoA.vok (a : CoA) (v : Val) : Prop := v.1 = true → ∃ (i : Nat) (fs : List Val), v.2 = (i : Int) ∧ a.fld i = some fs
structure CoOk (a : CoA) : Prop where
  r8 : a.regs.length = 8
  cl : a.cols.length = a.objs.length
  n : a.objs.length ≤ 500
  vr : ∀ v ∈ a.regs, a.vok v
  vf : ∀ i fs v, a.fld i = some fs → v ∈ fs → a.vok v
  f4 : ∀ i fs, a.fld i = some fs → fs.length ≤ 4
theorem CoA.fld_at {a : CoA} {i : Nat} {fs : List Val} (h : a.fld i = some fs) : a.objs[i]? = some (some fs) ∧ i < a.objs.length := by
  unfold CoA.fld at h
  cases h2 : a.objs[i]? with
  | none => rw [h2] at h; cases h
  | some o =>
    rw [h2] at h
    have h3 : o = some fs := h
    subst h3
    exact ⟨rfl, (List.getElem?_eq_some_iff.1 h2).1⟩
theorem oj_abs_at {s : Oj} {i : Nat} {fs : List Val} (h : s.abs[i]? = some (some fs)) : ∃ p, s.ps[i]? = some (some p) ∧ p.o.fields = fs := by
  unfold Oj.abs at h
  rw [List.getElem?_map] at h
  cases h2 : s.ps[i]? with
  | none => rw [h2] at h; cases h
  | some o =>
    rw [h2] at h
    cases o with
    | none => cases h
    | some p => exact ⟨p, rfl, by simpa using h⟩
theorem oj_put_abs (s : Oj) (i k : Nat) (v : Val) (p : Po) : (s.put i k v p).abs = s.abs.set i (some (p.o.fields.set k v)) := by
  unfold Oj.abs Oj.put
  rw [List.map_set]
  rfl
def coNew (a : CoA) (n : Nat) : CoA × Int × Int :=
  if 24 ≤ (thereL a.objs).length then (a, 0, 6) else ({ a with objs := a.objs ++ [some (zeroVs n)], cols := a.cols ++ [2] }, a.objs.length, 0)
def coPut (b : BarK) (a : CoA) (i k : Nat) (v : Val) : CoA :=
  { a with objs := a.objs.set i (some (((a.fld i).getD []).set k v)), cols := b.f a.cols i (((a.fld i).getD []).getD k (false, 0)) v }
theorem coNew_ok {a : CoA} (ok : CoOk a) (hn : a.objs.length < 500) (n : Nat) (h4 : n ≤ 4) : CoOk (coNew a n).1 ∧ ((coNew a n).2.2 = 0 → (coNew a n).1.vok (true, (coNew a n).2.1)) := by
  unfold coNew
  split
  · exact ⟨ok, fun h => by cases h⟩
  · dsimp only
    have hfo : ∀ i fs, a.fld i = some fs → (⟨a.regs, a.objs ++ [some (zeroVs n)], a.cols ++ [2], a.gone⟩ : CoA).fld i = some fs := fun i fs h => by
      obtain ⟨h1, h2⟩ := CoA.fld_at h
      unfold CoA.fld
      dsimp only
      rw [List.getElem?_append_left h2, h1]; rfl
    have hvo : ∀ v, a.vok v → (⟨a.regs, a.objs ++ [some (zeroVs n)], a.cols ++ [2], a.gone⟩ : CoA).vok v := fun v h h1 => by
      obtain ⟨i, fs, e, hf⟩ := h h1
      exact ⟨i, fs, e, hfo i fs hf⟩
    have hfn : ∀ i fs, (⟨a.regs, a.objs ++ [some (zeroVs n)], a.cols ++ [2], a.gone⟩ : CoA).fld i = some fs → a.fld i = some fs ∨ (i = a.objs.length ∧ fs = zeroVs n) := fun i fs h => by
      obtain ⟨h1, h2⟩ := CoA.fld_at h
      dsimp only at h1 h2
      rcases Nat.lt_or_ge i a.objs.length with hlt | hge
      · rw [List.getElem?_append_left hlt] at h1
        exact .inl (by unfold CoA.fld; rw [h1]; rfl)
      · have hi : i = a.objs.length := by rw [List.length_append] at h2; simp at h2; omega
        subst hi
        simp at h1
        exact .inr ⟨rfl, h1.symm⟩
    refine ⟨⟨ok.r8, by simp [ok.cl], by simp; omega, fun v hv => hvo v (ok.vr v hv), ?_, ?_⟩, fun _ => ?_⟩
    · intro i fs v hf hv
      rcases hfn i fs hf with h | ⟨_, rfl⟩
      · exact hvo v (ok.vf i fs v h hv)
      · intro h1
        obtain ⟨_, rfl⟩ := List.mem_replicate.1 hv
        cases h1
    · intro i fs hf
      rcases hfn i fs hf with h | ⟨_, rfl⟩
      · exact ok.f4 i fs h
      · simp [zeroVs]; exact h4
    · intro _
      exact ⟨a.objs.length, zeroVs n, rfl, by unfold CoA.fld; simp⟩
end Go.Proofs.Ytjphckfbbiehdaa

namespace Go.Proofs.Ytjphckfbbiehdaa
open Go.RowKit
def shadeL (cols : List Int) (vs : List Val) : List Int := vs.foldl shadeC cols
theorem shadeL_len (cols : List Int) (vs : List Val) : (shadeL cols vs).length = cols.length := by
  unfold shadeL
  induction vs generalizing cols with
  | nil => rfl
  | cons v vs ih => rw [List.foldl_cons, ih, shadeC_len]
end Go.Proofs.Ytjphckfbbiehdaa
