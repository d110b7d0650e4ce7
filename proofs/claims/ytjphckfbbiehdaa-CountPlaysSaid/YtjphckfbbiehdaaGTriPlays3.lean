/- A memory with colours as a machine's memory. A memory with colours as a machine's memory: it is one. A memory with colours: a barrier by its number; one grey object's work. -/
import Derived.Test.YtjphckfbbiehdaaGTriPlays1
import Derived.Test.YtjphckfbbiehdaaGTriPlays2
set_option linter.unusedSimpArgs false
set_option linter.unusedVariables false
namespace Go.Proofs.Ytjphckfbbiehdaa
open Go.RowKit

structure CoA where
  regs : List Val
  objs : List (Option (List Val))
  cols : List Int
  gone : List Int
structure CoT where
  regs : List Val
  s : CoS
def CoA.fld (a : CoA) (i : Nat) : Option (List Val) := (a.objs[i]?).getD none
def CoA.vok (a : CoA) (v : Val) : Prop := v.1 = true → ∃ (i : Nat) (fs : List Val), v.2 = (i : Int) ∧ a.fld i = some fs
structure CoOk (a : CoA) : Prop where
  r8 : a.regs.length = 8
  cl : a.cols.length = a.objs.length
  n : a.objs.length ≤ 500
  vr : ∀ v ∈ a.regs, a.vok v
  vf : ∀ i fs v, a.fld i = some fs → v ∈ fs → a.vok v
  f4 : ∀ i fs, a.fld i = some fs → fs.length ≤ 4
theorem CoA.fld_at {a : CoA} {i : Nat} {fs : List Val} (h : a.fld i = some fs) : a.objs[i]? = some (some fs) ∧ i < a.objs.length := by
  unfold CoA.fld at h
  cases h2 : a.objs[i]? with
  | none => rw [h2] at h; cases h
  | some o =>
    rw [h2] at h
    have h3 : o = some fs := h
    subst h3
    exact ⟨rfl, (List.getElem?_eq_some_iff.1 h2).1⟩
theorem oj_abs_at {s : Oj} {i : Nat} {fs : List Val} (h : s.abs[i]? = some (some fs)) : ∃ p, s.ps[i]? = some (some p) ∧ p.o.fields = fs := by
  unfold Oj.abs at h
  rw [List.getElem?_map] at h
  cases h2 : s.ps[i]? with
  | none => rw [h2] at h; cases h
  | some o =>
    rw [h2] at h
    cases o with
    | none => cases h
    | some p => exact ⟨p, rfl, by simpa using h⟩
theorem oj_put_abs (s : Oj) (i k : Nat) (v : Val) (p : Po) : (s.put i k v p).abs = s.abs.set i (some (p.o.fields.set k v)) := by
  unfold Oj.abs Oj.put
  rw [List.map_set]
  rfl
def coNew (a : CoA) (n : Nat) : CoA × Int × Int :=
  if 24 ≤ (thereL a.objs).length then (a, 0, 6) else ({ a with objs := a.objs ++ [some (zeroVs n)], cols := a.cols ++ [2] }, a.objs.length, 0)
def coPut (b : BarK) (a : CoA) (i k : Nat) (v : Val) : CoA :=
  { a with objs := a.objs.set i (some (((a.fld i).getD []).set k v)), cols := b.f a.cols i (((a.fld i).getD []).getD k (false, 0)) v }
def coK (b : BarK) (Bm Be : Nat) : MemK where
  A := CoA
  St := CoT
  abs t := ⟨t.regs, t.s.oj.abs, t.s.cols, t.s.gone⟩
  Bm := Bm
  T := 210
  p := .pointer (some ⟨Be, 0, none⟩)
  regs := CoA.regs
  fld := CoA.fld
  rest t := coR Be b.bv t.s
  ok := CoOk
  ok1 a := CoOk a ∧ a.objs.length < 500
  hold a _ _ := a
  setr a r v := { a with regs := a.regs.set r v }
  new_ := coNew
  put := coPut b
  fH := 280
  fN := 281
  fL := 264
  fG := 262
  fP := 282
  rL t := t.s.oj.v
  rG t := t.s.oj.v
  rP _ := .pointer (some ⟨Be, 0, none⟩)

set_option maxHeartbeats 400000 in
theorem chold_any (w : World) (p : Value) (r : Int) (v : Val) : Calls Try.prog 280 #[p, .int .i64 r, .agg #[.bool v.1, .int .i64 v.2]] w fun e w' => (∃ u, e = .returned u) ∧ Below w.heap.size w w' := by
  go_enter Try.func280, Try.ntmps280
  go_wp2_with fail
  go_end0
  exact ⟨⟨_, rfl⟩, (Below.refl _ w).alloc (Nat.le_refl _) _⟩
theorem cmeth_hold (x : Value) (w : World) : (method 455 210 x "Hold").run Try.prog w = .ok (280, x) w := by kernel_rfl
theorem cmeth_new (x : Value) (w : World) : (method 455 210 x "New").run Try.prog w = .ok (281, x) w := by kernel_rfl
theorem cmeth_put (x : Value) (w : World) : (method 455 210 x "Put").run Try.prog w = .ok (282, x) w := by kernel_rfl
theorem cmeth_len0 (Be : Nat) (w : World) : (method 455 210 (.pointer (some ⟨Be, 0, none⟩)) "Len").run Try.prog w = (Sem.run Try.prog (do let v ← receiverAt 101 (.var ⟨Be, 0, none⟩) false none; pure (264, v)) w) := by kernel_rfl
theorem cmeth_get0 (Be : Nat) (w : World) : (method 455 210 (.pointer (some ⟨Be, 0, none⟩)) "Get").run Try.prog w = (Sem.run Try.prog (do let v ← receiverAt 101 (.var ⟨Be, 0, none⟩) false none; pure (262, v)) w) := by kernel_rfl
theorem cmeth_len (Be : Nat) (v : Value) (w : World) (h : w.cell? ⟨Be, 0, none⟩ = some v) : (method 455 210 (.pointer (some ⟨Be, 0, none⟩)) "Len").run Try.prog w = .ok (264, v) w := by
  rw [cmeth_len0, Sem.run_bind, recv_cell Be w v h]; rfl
theorem cmeth_get (Be : Nat) (v : Value) (w : World) (h : w.cell? ⟨Be, 0, none⟩ = some v) : (method 455 210 (.pointer (some ⟨Be, 0, none⟩)) "Get").run Try.prog w = .ok (262, v) w := by
  rw [cmeth_get0, Sem.run_bind, recv_cell Be w v h]; rfl

/-- The memory beside the machine's own block. -/
theorem cok_part {b : BarK} {Bm Be : Nat} {t : CoT} {w : World} (hP : ((coK b Bm Be).item t).P w) : Sep ((coK b Bm Be).item t).fp w w [coI Be b.bv t.s, blkI Bm 113 (mcCells t.regs (.iface 210 (.pointer (some ⟨Be, 0, none⟩))))] := by
  have h1 : Sep ((coK b Bm Be).item t).fp w w (blkI Bm 113 (mcCells t.regs (.iface 210 (.pointer (some ⟨Be, 0, none⟩)))) :: coR Be b.bv t.s) := (Sep.start hP).flat
  exact (h1.perm (l := coR Be b.bv t.s ++ [blkI Bm 113 (mcCells t.regs (.iface 210 (.pointer (some ⟨Be, 0, none⟩))))]) (List.perm_append_comm (l₁ := [_]))).join
theorem cok_whole {b : BarK} {Bm Be : Nat} {t : CoT} {F : Nat → Prop} {W w : World} (h : Sep F W w [coI Be b.bv t.s, blkI Bm 113 (mcCells t.regs (.iface 210 (.pointer (some ⟨Be, 0, none⟩))))]) : Sep F W w [(coK b Bm Be).item t] := by
  have h1 : Sep F W w (coR Be b.bv t.s ++ [blkI Bm 113 (mcCells t.regs (.iface 210 (.pointer (some ⟨Be, 0, none⟩))))]) := Sep.split h
  have h2 : Sep F W w ((coK b Bm Be).items t) := h1.perm (List.perm_append_comm (l₂ := [_]))
  exact h2.fold
theorem vok_vin {a : CoA} (ok : CoOk a) {v : Val} (h : a.vok v) : vin a.cols.length v := fun h1 => by
  obtain ⟨i, fs, e, hf⟩ := h h1
  exact ⟨i, e, by rw [ok.cl]; exact (CoA.fld_at hf).2⟩
theorem coNew_ok {a : CoA} (ok : CoOk a) (hn : a.objs.length < 500) (n : Nat) (h4 : n ≤ 4) : CoOk (coNew a n).1 ∧ ((coNew a n).2.2 = 0 → (coNew a n).1.vok (true, (coNew a n).2.1)) := by
  unfold coNew
  split
  · exact ⟨ok, fun h => by cases h⟩
  · dsimp only
    have hfo : ∀ i fs, a.fld i = some fs → (⟨a.regs, a.objs ++ [some (zeroVs n)], a.cols ++ [2], a.gone⟩ : CoA).fld i = some fs := fun i fs h => by
      obtain ⟨h1, h2⟩ := CoA.fld_at h
      unfold CoA.fld
      dsimp only
      rw [List.getElem?_append_left h2, h1]; rfl
    have hvo : ∀ v, a.vok v → (⟨a.regs, a.objs ++ [some (zeroVs n)], a.cols ++ [2], a.gone⟩ : CoA).vok v := fun v h h1 => by
      obtain ⟨i, fs, e, hf⟩ := h h1
      exact ⟨i, fs, e, hfo i fs hf⟩
    have hfn : ∀ i fs, (⟨a.regs, a.objs ++ [some (zeroVs n)], a.cols ++ [2], a.gone⟩ : CoA).fld i = some fs → a.fld i = some fs ∨ (i = a.objs.length ∧ fs = zeroVs n) := fun i fs h => by
      obtain ⟨h1, h2⟩ := CoA.fld_at h
      dsimp only at h1 h2
      rcases Nat.lt_or_ge i a.objs.length with hlt | hge
      · rw [List.getElem?_append_left hlt] at h1
        exact .inl (by unfold CoA.fld; rw [h1]; rfl)
      · have hi : i = a.objs.length := by rw [List.length_append] at h2; simp at h2; omega
        subst hi
        simp at h1
        exact .inr ⟨rfl, h1.symm⟩
    refine ⟨⟨ok.r8, by simp [ok.cl], by simp; omega, fun v hv => hvo v (ok.vr v hv), ?_, ?_⟩, fun _ => ?_⟩
    · intro i fs v hf hv
      rcases hfn i fs hf with h | ⟨_, rfl⟩
      · exact hvo v (ok.vf i fs v h hv)
      · intro h1
        obtain ⟨_, rfl⟩ := List.mem_replicate.1 hv
        cases h1
    · intro i fs hf
      rcases hfn i fs hf with h | ⟨_, rfl⟩
      · exact ok.f4 i fs h
      · simp [zeroVs]; exact h4
    · intro _
      exact ⟨a.objs.length, zeroVs n, rfl, by unfold CoA.fld; simp⟩
end Go.Proofs.Ytjphckfbbiehdaa

namespace Go.Proofs.Ytjphckfbbiehdaa
open Go.RowKit

theorem cok_cell0 {b : BarK} {Bm Be : Nat} {t : CoT} {w : World} (hP : ((coK b Bm Be).item t).P w) : w.cell? ⟨Be, 0, none⟩ = some t.s.oj.v := (co_01 ((cok_part hP).get 0 rfl)).1
theorem cok_new (b : BarK) (Bm Be : Nat) (t : CoT) (w : World) (n : Nat) (hP : ((coK b Bm Be).item t).P w) (ok : CoOk ((coK b Bm Be).abs t)) (h4 : n ≤ 4) :
    Calls Try.prog 281 #[.pointer (some ⟨Be, 0, none⟩), .int .i64 (n : Int)] w fun e w' => e = .returned (.tuple #[.int .i64 (coNew ((coK b Bm Be).abs t) n).2.1, .int .i64 (coNew ((coK b Bm Be).abs t) n).2.2]) ∧ ∃ s', (coK b Bm Be).abs s' = (coNew ((coK b Bm Be).abs t) n).1 ∧ Sep ((coK b Bm Be).item t).fp w w' [(coK b Bm Be).item s'] := by
  have hl : t.s.cols.length = t.s.oj.ps.length := by have h := ok.cl; have h2 := oj_lenabs t.s.oj; exact h.trans h2
  have hn : t.s.oj.ps.length ≤ 500 := by have h := ok.n; have h2 := oj_lenabs t.s.oj; exact h2 ▸ h
  have hp := cok_part hP
  have hth : (thereL ((coK b Bm Be).abs t).objs).length = (thereL t.s.oj.ps).length := congrArg List.length (thereL_abs t.s.oj)
  refine (cnew_any (hp.get 0 rfl) hl (by omega) h4).mono ?_
  rintro e w' (⟨h24, rfl, hb⟩ | ⟨h24, rfl, s', e1, e2, e3, hS⟩)
  · unfold coNew
    rw [if_pos (by rw [hth]; exact h24)]
    exact ⟨rfl, t, rfl, (Sep.start hP).below hb⟩
  · unfold coNew
    rw [if_neg (by rw [hth]; omega)]
    refine ⟨?_, ⟨t.regs, s'⟩, ?_, cok_whole (t := ⟨t.regs, s'⟩) (hp.call 0 rfl hS)⟩
    · show _ = Ending.returned (.tuple #[.int .i64 ((t.s.oj.abs.length : Nat) : Int), .int .i64 0])
      rw [oj_lenabs]
    · show (⟨t.regs, s'.oj.abs, s'.cols, s'.gone⟩ : CoA) = _
      rw [e1, e2, e3]; rfl
theorem coK_ok (b : BarK) (hb : b.Ok) (Bm Be : Nat) : (coK b Bm Be).Ok where
  r8 _ ok := CoOk.r8 ok
  vr _ v ok hv := CoOk.vr ok v hv
  vf _ i fs v ok h hv := CoOk.vf ok i fs v h hv
  f4 _ i fs ok h := CoOk.f4 ok i fs h
  lim _ i fs ok h := by have h1 := (CoA.fld_at h).2; have h2 := CoOk.n ok; omega
  set_ t r v := ⟨⟨t.regs.set r v, t.s⟩, rfl, rfl⟩
  regs_set _ _ _ := rfl
  regs_hold _ _ _ := rfl
  regs_put _ _ _ _ := rfl
  eH := kenter_of Try.func280 (by kernel_rfl) rfl
  eN := kenter_of Try.func281 (by kernel_rfl) rfl
  eL := kenter_of Try.func264 (by kernel_rfl) rfl
  eG := kenter_of Try.func262 (by kernel_rfl) rfl
  eP := kenter_of Try.func282 (by kernel_rfl) rfl
  mH w := cmeth_hold _ w
  mN w := cmeth_new _ w
  mL _ w hP := cmeth_len Be _ w (cok_cell0 hP)
  mG _ w hP := cmeth_get Be _ w (cok_cell0 hP)
  mP _ w _ := cmeth_put _ w
  cH t w r v hP _ _ _ := (chold_any w _ r v).mono fun _ _ ⟨he, hb⟩ => ⟨he, t, rfl, (Sep.start hP).below hb⟩
  cN t w n hP ok h4 := cok_new b Bm Be t w n hP ok h4
  ok_of _ h := h.1
  okN _ n h h4 := coNew_ok h.1 h.2 n h4
  cL t w i fs hP ok h := by
    obtain ⟨p, hp, hf⟩ := oj_abs_at (CoA.fld_at h).1
    have hS : Sep _ w w ([blkI Be 213 (coC b.bv t.s), rowI 3 1 t.s.Ac t.s.cols.length t.s.cc (ints t.s.cols), rowI 3 1 t.s.Ag t.s.gone.length t.s.cg (ints t.s.gone)] ++ ojL t.s.oj) := (Sep.start ((cok_part hP).get 0 rfl)).flat
    have hl := oj_len hS hp
    have hn : t.s.oj.ps.length ≤ 500 := by have h := CoOk.n ok; have h2 := oj_lenabs t.s.oj; exact h2 ▸ h
    refine (olen_any hS (by omega) hp).mono fun e w' ⟨he, hw⟩ => ⟨?_, hw⟩
    rw [he, ← hf, hl]
  cG t w i k fs hk hP ok h := by
    obtain ⟨p, hp, hf⟩ := oj_abs_at (CoA.fld_at h).1
    have hS : Sep _ w w ([blkI Be 213 (coC b.bv t.s), rowI 3 1 t.s.Ac t.s.cols.length t.s.cc (ints t.s.cols), rowI 3 1 t.s.Ag t.s.gone.length t.s.cg (ints t.s.gone)] ++ ojL t.s.oj) := (Sep.start ((cok_part hP).get 0 rfl)).flat
    have hn : t.s.oj.ps.length ≤ 500 := by have h := CoOk.n ok; have h2 := oj_lenabs t.s.oj; exact h2 ▸ h
    have h4 := CoOk.f4 ok i fs h
    subst hf
    exact oget_any hS (by omega) hp hk h4
  cP t w i k fs v hk hP ok h hv := by
    obtain ⟨p, hp, hf⟩ := oj_abs_at (CoA.fld_at h).1
    have hl : t.s.cols.length = t.s.oj.ps.length := by have h := CoOk.cl ok; have h2 := oj_lenabs t.s.oj; exact h.trans h2
    have hn : t.s.oj.ps.length ≤ 500 := by have h := CoOk.n ok; have h2 := oj_lenabs t.s.oj; exact h2 ▸ h
    have h4 := CoOk.f4 ok i fs h
    have hold := vok_vin ok (CoOk.vf ok i fs fs[k] h (List.getElem_mem hk))
    have hvv := vok_vin ok hv
    subst hf
    have hpt := cok_part hP
    refine (cput_any b hb (hpt.get 0 rfl) hl (by omega) v hp hk h4 hvv hold).mono ?_
    rintro e w' ⟨he, hS⟩
    refine ⟨he, ⟨t.regs, (t.s.col (b.f t.s.cols i p.o.fields[k] v)).put i k v p⟩, ?_, cok_whole (t := ⟨t.regs, (t.s.col (b.f t.s.cols i p.o.fields[k] v)).put i k v p⟩) (hpt.call 0 rfl hS)⟩
    have hfl : (((coK b Bm Be).abs t).fld i).getD [] = p.o.fields := by rw [show ((coK b Bm Be).abs t).fld i = some p.o.fields from h]; rfl
    show (⟨t.regs, (t.s.oj.put i k v p).abs, b.f t.s.cols i p.o.fields[k] v, t.s.gone⟩ : CoA) = coPut b ((coK b Bm Be).abs t) i k v
    unfold coPut
    rw [hfl, oj_put_abs, List.getD_eq_getElem?_getD, List.getElem?_eq_getElem hk]
    rfl
end Go.Proofs.Ytjphckfbbiehdaa

namespace Go.Proofs.Ytjphckfbbiehdaa
open Go.RowKit

def barV (n : Int) : Value := if n = 1 then (barOf 1).bv else if n = 2 then (barOf 2).bv else if n = 3 then (barOf 3).bv else .nilIface
set_option maxRecDepth 100000 in
set_option maxHeartbeats 4000000 in
theorem barrierOf_any (w : World) (n : Int) : Calls Try.prog 94 #[.int .i64 n] w fun e w' => e = .returned (barV n) ∧ Below w.heap.size w w' := by
  unfold barV
  by_cases h1 : n = 1
  · subst h1
    rw [if_pos rfl]
    go_enter Try.func94, Try.ntmps94
    go_wp2_with fail
    go_ret
    exact ⟨rfl, Below.refl _ _⟩
  · rw [if_neg h1]
    have y1 : (n == 1) = false := by simp [h1]
    by_cases h2 : n = 2
    · subst h2
      rw [if_pos rfl]
      clear h1 y1
      go_enter Try.func94, Try.ntmps94
      go_wp2_with fail
      go_ret
      exact ⟨rfl, Below.refl _ _⟩
    · rw [if_neg h2]
      have y2 : (n == 2) = false := by simp [h2]
      by_cases h3 : n = 3
      · subst h3
        rw [if_pos rfl]
        clear h1 y1 h2 y2
        go_enter Try.func94, Try.ntmps94
        go_wp2_with fail
        go_ret
        exact ⟨rfl, Below.refl _ _⟩
      · rw [if_neg h3]
        have y3 : (n == 3) = false := by simp [h3]
        clear h1 h2 h3
        go_enter Try.func94, Try.ntmps94
        go_wp2_with fail
        go_ret
        exact ⟨rfl, Below.refl _ _⟩

def shadeL (cols : List Int) (vs : List Val) : List Int := vs.foldl shadeC cols
theorem shadeL_len (cols : List Int) (vs : List Val) : (shadeL cols vs).length = cols.length := by
  unfold shadeL
  induction vs generalizing cols with
  | nil => rfl
  | cons v vs ih => rw [List.foldl_cons, ih, shadeC_len]
theorem shadeL_snoc (cols : List Int) (vs : List Val) (v : Val) : shadeL cols (vs ++ [v]) = shadeC (shadeL cols vs) v := by unfold shadeL; rw [List.foldl_append]; rfl
theorem greyF_at {α : Type} {l : List (Option α)} {cols : List Int} (h : greyF (thereL l) cols ≠ -1) : ∃ (i : Nat) (a : α), greyF (thereL l) cols = (i : Int) ∧ l[i]? = some (some a) := by
  unfold greyF at h ⊢
  split at h
  · rename_i x hx
    obtain ⟨i, a, h1, h2⟩ := (mem_thereL l x).1 (List.mem_of_find?_eq_some hx)
    exact ⟨i, a, by simp [hx, h1], h2⟩
  · exact absurd rfl h

set_option maxRecDepth 100000 in
set_option maxHeartbeats 8000000 in
theorem work_any {Be : Nat} {bv : Value} {s : CoS} {w : World} (hP : (coI Be bv s).P w) (hl : s.cols.length = s.oj.ps.length) (hn : s.oj.ps.length ≤ 1000)
    (hv : ∀ (i : Nat) (p : Po), s.oj.ps[i]? = some (some p) → p.o.fields.length ≤ 4 ∧ ∀ v ∈ p.o.fields, vin s.cols.length v) :
    Calls Try.prog 97 #[.pointer (some ⟨Be, 0, none⟩)] w fun e w' =>
      (greyF (thereL s.oj.ps) s.cols = -1 ∧ e = .returned (.int .i64 7) ∧ Below w.heap.size w w') ∨
      (∃ (i : Nat) (p : Po), greyF (thereL s.oj.ps) s.cols = (i : Int) ∧ s.oj.ps[i]? = some (some p) ∧ e = .returned (.int .i64 0) ∧ Sep (coI Be bv s).fp w w' [coI Be bv (s.col ((shadeL s.cols p.o.fields).set i 2))]) := by
  obtain ⟨F, hF⟩ : ∃ F, (coI Be bv s).fp = F := ⟨_, rfl⟩
  have CG := hide (grey_any hP hl hn)
  have hS0 := Sep.start hP
  rw [hF] at hS0 ⊢
  have HS0 := hide hS0
  have HL := hide hl
  have HN := hide hn
  have HV := hide hv
  by_cases hg : greyF (thereL s.oj.ps) s.cols = -1
  · rw [hg] at CG ⊢
    clear hS0 hP hl hn hv hF HS0 HV
    go_enter Try.func97, Try.ntmps97
    go_wp2_with fail
    refine CG.out.mono ?_
    rintro e w1 ⟨rfl, hb⟩
    have HB := hide hb
    clear hb
    go_wp2_with fail
    go_ret
    exact .inl ⟨by first | trivial | rfl, rfl, HB.out⟩
  · obtain ⟨i, p, hi, hp⟩ := greyF_at hg
    rw [hi] at CG ⊢
    have HP := hide hp
    have hil := (List.getElem?_eq_some_iff.1 hp).1
    obtain ⟨h4, hvi⟩ := hv i p hp
    obtain ⟨N, hN⟩ : ∃ n, s.oj.ps.length = n := ⟨_, rfl⟩
    rw [hN] at hl hil hn
    have t1 : decide ((i : Int) < 0) = false := by simp
    have t2 : decide ((N : Int) ≤ (i : Int)) = false := by simp; omega
    have HNN := hide hN
    have HCL := hide hl
    have HVI := hide hvi
    clear hS0 hP hl hv hF HV hg hi hp hN hvi
    go_enter Try.func97, Try.ntmps97
    go_wp2_with fail
    refine CG.out.mono ?_
    rintro e w1 ⟨rfl, hb⟩
    have hS1 := HS0.out.below hb
    obtain ⟨b5, _, b3⟩ := (show w1.cell? ⟨Be, 0, none⟩ = some (.slice s.oj.As s.oj.ps.length s.oj.c) ∧ w1.cell? ⟨Be, 2, none⟩ = some (.slice s.Ac s.cols.length s.cc) ∧ Be < w1.heap.size from by
      obtain ⟨b1, b2, b3, _⟩ := (hS1.split : Sep F w w1 (coR Be bv s ++ [])).rules 0 (g := Be) (t := 213) rfl
      exact ⟨(b1 0).trans rfl, (b1 2).trans rfl, b3⟩)
    obtain ⟨ad, hA, had, e0, e1, hob⟩ := oj_at (pre := [blkI Be 213 (coC bv s), rowI 3 1 s.Ac s.cols.length s.cc (ints s.cols), rowI 3 1 s.Ag s.gone.length s.cg (ints s.gone)]) ((Sep.start (hS1.get 0 rfl)).flat) HP.out
    rw [HNN.out, hA] at b5
    have HS1 := hide hS1
    obtain ⟨B, hB⟩ : ∃ x, p.B = x := ⟨_, rfl⟩
    rw [hB] at e0 e1
    have hfl : p.o.fields.length = p.o.n := oj_len (pre := [blkI Be 213 (coC bv s), rowI 3 1 s.Ac s.cols.length s.cc (ints s.cols), rowI 3 1 s.Ag s.gone.length s.cg (ints s.gone)]) ((Sep.start (hS1.get 0 rfl)).flat) HP.out
    have HFL := hide hfl
    obtain ⟨m, hm⟩ : ∃ x, p.o.n = x := ⟨_, rfl⟩
    obtain ⟨cf, hcf⟩ : ∃ x, p.o.c = x := ⟨_, rfl⟩
    obtain ⟨Af, hAf⟩ : ∃ x, p.o.A = x := ⟨_, rfl⟩
    rw [hm, hcf, hAf] at e1
    have hm4 : m ≤ 4 := by omega
    have HM := hide hm
    have HCF := hide hcf
    have HAF := hide hAf
    clear hS1 hb hob CG hB hfl hm hcf hAf h4
    go_wp2_with fail
    go_loopw [21] (fun i wr => ∃ k : Nat, k ≤ m ∧ i = .int .i64 k ∧ Sep F w wr [coI Be bv (s.col (shadeL s.cols (p.o.fields.take k)))]) (fun i _ => m - (intOf i).toNat)
    case atStart => exact ⟨0, by omega, rfl, HS1.out⟩
    case round =>
      clear HS1 e0 e1 b5 b3 had
      obtain ⟨k, hk, rfl, hS⟩ := hrel
      by_cases hlt : k < m
      · have hkl : k < p.o.fields.length := by rw [HFL.out, HM.out]; exact hlt
        obtain ⟨ad2, hA2, had2, f0, f1, hob⟩ := oj_at (s := s.oj) (pre := [blkI Be 213 (coC bv (s.col (shadeL s.cols (p.o.fields.take k)))), rowI 3 1 s.Ac (shadeL s.cols (p.o.fields.take k)).length s.cc (ints (shadeL s.cols (p.o.fields.take k))), rowI 3 1 s.Ag s.gone.length s.cg (ints s.gone)]) ((Sep.start (hS.get 0 rfl)).flat) HP.out
        obtain ⟨gf, hAg⟩ := hown_addr (show wr.ownsRow 0 107 2 (.slice p.o.A p.o.n p.o.c) p.o.n (vals p.o.fields) from hob) (by have := HM.out; omega)
        have hob2 : (rowI 107 2 (some ⟨gf, 0, none⟩) p.o.n p.o.c (vals p.o.fields)).P wr := by rw [← hAg]; exact hob
        obtain ⟨e2, e3, e4, e5⟩ := hrow_val hob2 k (by have := HM.out; omega) hkl
        have hT := List.take_succ_eq_append_getElem hkl
        have hvk := HVI.out _ (List.getElem_mem hkl)
        obtain ⟨v, hv⟩ : ∃ v, p.o.fields[k] = v := ⟨_, rfl⟩
        rw [hv] at e2 e3 hT hvk
        have HLK := hide (shadeL_len s.cols (p.o.fields.take k))
        have HT := hide (show shadeL s.cols (p.o.fields.take (k + 1)) = shadeC (shadeL s.cols (p.o.fields.take k)) v from by rw [hT, shadeL_snoc])
        obtain ⟨CK, hCK⟩ : ∃ c, shadeL s.cols (p.o.fields.take k) = c := ⟨_, rfl⟩
        rw [hCK] at HLK HT hS
        have hcn : CK.length ≤ 1000 := by have := HLK.out; have := HCL.out; omega
        have hvk2 : vin CK.length v := by rw [HLK.out]; exact hvk
        have C := hide (fun (X : World) (h : Sep F w X [coI Be bv (s.col CK)]) => shade_any (s := s.col CK) (h.get 0 rfl) hcn v hvk2)
        have HS := hide hS
        rw [← HAF.out, hAg]
        obtain ⟨bv1, mv⟩ := v
        dsimp only at C e2 e3 HT
        clear hT hvk hv hCK hcn hvk2 hS hob hob2 f0 f1 had2 hA2 hAg
        go_wp2_with fail
        refine (C.out _ (HS.out.alloc (.cells #[.bool bv1, .int .i64 mv] 107))).mono ?_
        rintro e w2 ⟨⟨u, rfl⟩, hP2⟩
        have HS2 := hide ((HS.out.alloc (.cells #[.bool bv1, .int .i64 mv] 107)).call 0 rfl hP2)
        clear hP2 C HS
        go_wp2_with fail
        go_roundw
        case rel => exact ⟨k + 1, by omega, by go_num, by rw [HT.out]; exact HS2.out⟩
        case measure => simp [intOf]; omega
      · obtain rfl : k = m := by omega
        have hall : p.o.fields.take k = p.o.fields := List.take_of_length_le (by have := HFL.out; have := HM.out; omega)
        rw [hall] at hS
        have HLK := hide (shadeL_len s.cols p.o.fields)
        have hz : i < (s.col (shadeL s.cols p.o.fields)).cols.length := by have := HLK.out; have := HCL.out; show i < (shadeL s.cols p.o.fields).length; omega
        obtain ⟨gc, hAc, c0, c1, c2, c3, c4, n1⟩ := co_cell (hS.get 0 rfl) hz
        have HFIN := hide (co_store hS (z := i) hAc 2)
        have hcl : (s.col (shadeL s.cols p.o.fields)).cols.length = N := by have := HLK.out; have := HCL.out; show (shadeL s.cols p.o.fields).length = N; omega
        rw [hcl] at c0
        have t3 : (0 : Int) ≤ (i : Int) := by omega
        have t4 : (i : Int) < (N : Int) := by omega
        have n2 : gc ≠ Be := fun e => n1 e.symm
        obtain ⟨y, hy⟩ : ∃ y, (s.col (shadeL s.cols p.o.fields)).cols.getD i 0 = y := ⟨_, rfl⟩
        rw [hy] at c1
        obtain ⟨cc, hcc⟩ : ∃ c, (s.col (shadeL s.cols p.o.fields)).cc = c := ⟨_, rfl⟩
        rw [hcc] at c0
        clear hall hS hz hAc hcl hy hcc
        go_wp2_with fail
        go_ret
        exact .inr ⟨i, p, rfl, HP.out, rfl, HFIN.out⟩
end Go.Proofs.Ytjphckfbbiehdaa
