/- A memory with colours: what it has in memory; is an object white; it becomes grey; the first grey one. A memory with colours: the first grey object; a new one. A memory with colours: what is done where a value comes to stand in a field. A memory with colours: a field becomes a value. A machine over a memory without end: a register becomes a value; what is wrong with a field. -/
import Derived.Test.YtjphckfbbiehdaaSGenPlays5
import Derived.StillTailTactics
set_option linter.unusedSimpArgs false
set_option linter.unusedVariables false
namespace Go.Proofs.Ytjphckfbbiehdaa
open Go.RowKit
structure CoS where
  oj : Oj
  Ac : Option Addr
  cc : Nat
  cols : List Int
  Ag : Option Addr
  cg : Nat
  gone : List Int
def coC (bv : Value) (s : CoS) : Array Value := #[s.oj.v, bv, .slice s.Ac s.cols.length s.cc, .slice s.Ag s.gone.length s.cg]
def coR (Be : Nat) (bv : Value) (s : CoS) : List Item := blkI Be 213 (coC bv s) :: rowI 3 1 s.Ac s.cols.length s.cc (ints s.cols) :: rowI 3 1 s.Ag s.gone.length s.cg (ints s.gone) :: ojL s.oj
def coI (Be : Nat) (bv : Value) (s : CoS) : Item := allI (coR Be bv s)
def whiteB (cols : List Int) (v : Val) : Bool := v.1 && decide (cols.getD v.2.toNat 0 = 0)
def shadeC (cols : List Int) (v : Val) : List Int := if whiteB cols v = true then cols.set v.2.toNat 1 else cols
theorem shadeC_len (cols : List Int) (v : Val) : (shadeC cols v).length = cols.length := by unfold shadeC; split <;> simp
def CoS.col (s : CoS) (l : List Int) : CoS := { s with cols := l }
theorem int_at {w : World} {A : Option Addr} {n c : Nat} {l : List Int} (h : (rowI 3 1 A n c (ints l)).P w) {z : Nat} (hz : z < n) : ∃ g, A = some ⟨g, 0, none⟩ ∧ z < l.length ∧ w.cell? ⟨g, z, none⟩ = some (.int .i64 (l.getD z 0)) ∧ w.frozen? ⟨g, z, none⟩ = false ∧ g < w.heap.size := by
  have ho : w.ownsRow 0 3 1 (.slice A n c) n (ints l) := h
  have hl : l.length = n := by have := ho.1; simpa using this
  obtain ⟨g, hA⟩ := hown_addr ho (by omega)
  subst hA
  obtain ⟨fd, hA, _, hb, hc⟩ := (Rd.of_own (D := fun _ => True) ho (fun _ _ => trivial)).at_ hz
  obtain rfl : (⟨g, 0, none⟩ : Addr) = fd := by injection hA
  have e := hc (.int .i64 (l.getD z 0)) (by simp [ints, List.getD_eq_getElem?_getD, List.getElem?_eq_getElem (show z < l.length by omega)])
  rw [hraddr0] at e
  exact ⟨g, rfl, by omega, e, ho.frozenAt _, hb⟩
theorem ints_setC (l : List Int) (z : Nat) (y : Int) : (ints l).set z (.int .i64 y) = ints (l.set z y) := by simp [ints, List.map_set]
set_option maxRecDepth 100000 in
set_option maxHeartbeats 4000000 in
theorem white_any {Be : Nat} {bv : Value} {s : CoS} {w : World} (hP : (coI Be bv s).P w) (hn : s.cols.length ≤ 1000) (v : Val) (hv : v.1 = true → ∃ z : Nat, v.2 = (z : Int) ∧ z < s.cols.length) :
    Calls Try.prog 192 #[.pointer (some ⟨Be, 0, none⟩), .agg #[.bool v.1, .int .i64 v.2]] w fun e w' => e = .returned (.bool (whiteB s.cols v)) ∧ Below w.heap.size w w' := by
  obtain ⟨g, hg⟩ : ∃ g, w.heap.size = g := ⟨_, rfl⟩
  have hS0 := (Sep.start hP).flat.blkAt 107 #[.bool v.1, .int .i64 v.2] hg
  have hb : Below w.heap.size w (w.alloc (.cells #[.bool v.1, .int .i64 v.2] 107)) := (Below.refl _ w).alloc (Nat.le_refl _) _
  obtain ⟨b1, b2, b3, _⟩ := hS0.rules 0 (g := Be) (t := 213) rfl
  have b5 := (b1 2).trans (show _ = some (.slice s.Ac s.cols.length s.cc) from rfl)
  have hrow : (rowI 3 1 s.Ac s.cols.length s.cc (ints s.cols)).P (w.alloc (.cells #[.bool v.1, .int .i64 v.2] 107)) := hS0.get 1 rfl
  have HB := hide hb
  obtain ⟨bv2, mv⟩ := v
  unfold whiteB
  dsimp only at hv hrow b5 b3 HB ⊢
  cases bv2 with
  | false =>
    clear hS0 hP hb b1 b2 hv hrow b5
    rw [Bool.false_and]
    go_enter Try.func192, Try.ntmps192
    go_wp2_with fail
    go_quiet (fail)
    go_wp2_with fail
    go_ret
    exact ⟨rfl, below_drewN HB.out _⟩
  | true =>
    obtain ⟨z, rfl, hz⟩ := hv rfl
    obtain ⟨gc, hA, _, e0, _, e2⟩ := int_at hrow hz
    rw [hA] at b5
    rw [Bool.true_and, show ((z : Int)).toNat = z from by omega]
    obtain ⟨y, hy⟩ : ∃ y, s.cols.getD z 0 = y := ⟨_, rfl⟩
    rw [hy] at e0 ⊢
    obtain ⟨m, hm⟩ : ∃ m, s.cols.length = m := ⟨_, rfl⟩
    rw [hm] at b5 hz hn
    have t1 : decide ((z : Int) < 0) = false := by simp
    have t2 : decide ((m : Int) ≤ (z : Int)) = false := by simp; omega
    clear hS0 hP hb b1 b2 hrow hA hm hy
    go_enter Try.func192, Try.ntmps192
    go_wp2_with fail
    go_quiet (fail)
    go_wp2_with fail
    go_ret
    exact ⟨ret_bool (by first | rfl | simp), below_drewN HB.out _⟩
set_option maxRecDepth 100000 in
set_option maxHeartbeats 4000000 in
theorem shade_any {Be : Nat} {bv : Value} {s : CoS} {w : World} (hP : (coI Be bv s).P w) (hn : s.cols.length ≤ 1000) (v : Val) (hv : v.1 = true → ∃ z : Nat, v.2 = (z : Int) ∧ z < s.cols.length) :
    Calls Try.prog 156 #[.pointer (some ⟨Be, 0, none⟩), .agg #[.bool v.1, .int .i64 v.2]] w fun e w' => (∃ u, e = .returned u) ∧ Sep (coI Be bv s).fp w w' [coI Be bv (s.col (shadeC s.cols v))] := by
  obtain ⟨F, hF⟩ : ∃ F, (coI Be bv s).fp = F := ⟨_, rfl⟩
  obtain ⟨g, hg⟩ : ∃ g, w.heap.size = g := ⟨_, rfl⟩
  have hS0 := (Sep.start hP).blkAt 107 #[.bool v.1, .int .i64 v.2] hg
  rw [hF] at hS0 ⊢
  obtain ⟨W, hW⟩ : ∃ W, w.alloc (.cells #[.bool v.1, .int .i64 v.2] 107) = W := ⟨_, rfl⟩
  rw [hW] at hS0
  obtain ⟨x1, x2, x3, _⟩ := hS0.rules 1 (g := g) (t := 107) rfl
  have x5 := (x1 0).trans (show _ = some (.bool v.1) from rfl)
  have x6 := (x1 1).trans (show _ = some (.int .i64 v.2) from rfl)
  have CW := hide (white_any (hS0.get 0 rfl) hn v hv)
  have HW := hide hW
  have HGG := hide hg
  have HS0 := hide hS0
  have HV := hide hv
  unfold shadeC
  obtain ⟨b, hb⟩ : ∃ b, whiteB s.cols v = b := ⟨_, rfl⟩
  rw [hb] at CW ⊢
  have HB := hide hb
  obtain ⟨bv2, mv⟩ := v
  dsimp only at HV HB CW x5 x6 HS0 HW ⊢
  clear hS0 hP hF hW hv x1 hb hg
  cases b with
  | false =>
    rw [if_neg (by simp)]
    go_enter Try.func156, Try.ntmps156
    go_wp2_with fail
    rw [HW.out, HGG.out]
    go_wp2_with fail
    refine CW.out.mono ?_
    rintro e w1 ⟨rfl, hb1⟩
    have HS1 := hide (HS0.out.below hb1)
    clear hb1 HS0 CW x2 x3 x5 x6
    go_wp2_with fail
    go_end0
    exact ⟨⟨_, rfl⟩, HS1.out.sub (List.sublist_append_left [_] [_])⟩
  | true =>
    rw [if_pos rfl]
    have hv1 : bv2 = true := by have h := HB.out; unfold whiteB at h; simp at h; exact h.1
    subst hv1
    obtain ⟨z, rfl, hz⟩ := HV.out rfl
    rw [show ((z : Int)).toNat = z from by omega]
    go_enter Try.func156, Try.ntmps156
    go_wp2_with fail
    rw [HW.out, HGG.out]
    go_wp2_with fail
    refine CW.out.mono ?_
    rintro e w1 ⟨rfl, hb1⟩
    have hS1 := (HS0.out.below hb1).drew.split
    obtain ⟨gc, hA, hzl, e0, e1, e2⟩ := int_at (show (rowI 3 1 s.Ac s.cols.length s.cc (ints s.cols)).P w1.drew from hS1.get 1 rfl) hz
    obtain ⟨b1, b2, b3, _⟩ := hS1.rules 0 (g := Be) (t := 213) rfl
    have b5 := (b1 2).trans (show _ = some (.slice s.Ac s.cols.length s.cc) from rfl)
    obtain ⟨x1, x2, x3, _⟩ := (HS0.out.below hb1).rules 1 (g := g) (t := 107) rfl
    have x6 := (x1 1).trans (show _ = some (.int .i64 (z : Int)) from rfl)
    rw [hA] at b5
    have he : rowI 3 1 s.Ac s.cols.length s.cc (ints s.cols) = rowI 3 1 (some ⟨gc, 0, none⟩) s.cols.length s.cc (ints s.cols) := by rw [hA]
    have hS2 : Sep F w w1.drew ((blkI Be 213 (coC bv s) :: rowI 3 1 (some ⟨gc, 0, none⟩) s.cols.length s.cc (ints s.cols) :: rowI 3 1 s.Ag s.gone.length s.cg (ints s.gone) :: ojL s.oj) ++ [blkI g 107 #[.bool true, .int .i64 z]]) := by rw [← he]; exact hS1
    have hS3 := hS2.store 1 (g := gc) rfl z (.int .i64 1)
    rw [ints_setC] at hS3
    have HS3 := hide (show Sep F w (w1.drew.setCell ⟨gc, z, none⟩ (.int .i64 1)) [coI Be bv (s.col (s.cols.set z 1))] from by
      have h4 : Sep F w (w1.drew.setCell ⟨gc, z, none⟩ (.int .i64 1)) (coR Be bv (s.col (s.cols.set z 1))) := by
        unfold coR coC CoS.col
        dsimp only
        rw [List.length_set, hA]
        simp only [List.cons_append, List.set_cons_succ, List.set_cons_zero] at hS3
        unfold coC Oj.v at hS3
        rw [hA] at hS3
        exact hS3.sub (List.sublist_append_left (_ :: _ :: _ :: ojL s.oj) [_])
      exact h4.fold)
    have e3 := e1
    have b6 : w1.cell? ⟨Be, 2, none⟩ = some (.slice (some ⟨gc, 0, none⟩) s.cols.length s.cc) := b5
    have e4 : w1.cell? ⟨gc, z, none⟩ = some (.int .i64 (s.cols.getD z 0)) := e0
    have e5 : w1.frozen? ⟨gc, z, none⟩ = false := e1
    have e6 : gc < w1.heap.size := e2
    have b7 : Be < w1.heap.size := b3
    obtain ⟨m, hm⟩ : ∃ m, s.cols.length = m := ⟨_, rfl⟩
    obtain ⟨y, hy⟩ : ∃ y, s.cols.getD z 0 = y := ⟨_, rfl⟩
    rw [hm] at b6 hz hn
    rw [hy] at e4
    have n1 : Be ≠ gc := fun e => hS2.other (a := 0) (b := 1) rfl rfl (by omega) Be rfl (by rw [e]; rfl)
    have n2 : gc ≠ Be := fun e => n1 e.symm
    have n3 : gc ≠ g := fun e => by
      have h9 : (rowI 3 1 (some ⟨gc, 0, none⟩) s.cols.length s.cc (ints s.cols)).fp g := by rw [← e]; rfl
      exact (HS0.out.below hb1).other (a := 0) (b := 1) rfl rfl (by omega) g ⟨_, List.mem_cons_of_mem _ (List.mem_cons_self ..), by rw [he]; exact h9⟩ rfl
    have n4 : g ≠ gc := fun e => n3 e.symm
    have t1 : decide ((z : Int) < 0) = false := by simp
    have t2 : decide ((m : Int) ≤ (z : Int)) = false := by simp; omega
    have t3 : (0 : Int) ≤ (z : Int) := by omega
    have t4 : (z : Int) < (m : Int) := by omega
    clear hb1 HS0 CW b1 b2 b3 b5 x1 e0 e1 e2 e3 hS1 hS2 hS3 he hA hm hy hzl HV HB
    go_wp2_with fail
    go_region_held3 (fun w' => w'.cell? ⟨Be, 2, none⟩ = some (.slice (some ⟨gc, 0, none⟩) m s.cc) ∧ w'.cell? ⟨g, 1, none⟩ = some (.int .i64 (z : Int))) (go_keep) (fail)
    all_goals
      go_wp2_with fail
      go_end0
      exact ⟨⟨_, rfl⟩, HS3.out⟩
end Go.Proofs.Ytjphckfbbiehdaa

namespace Go.Proofs.Ytjphckfbbiehdaa
open Go.RowKit
def greyF (l cols : List Int) : Int := match l.find? (fun x => decide (cols.getD x.toNat 0 = 1)) with | some x => x | none => -1
theorem thereL_nat {α : Type} {l : List (Option α)} {x : Int} (h : x ∈ thereL l) : ∃ z : Nat, x = (z : Int) ∧ z < l.length := by
  obtain ⟨i, a, rfl, h1⟩ := (mem_thereL l x).1 h
  exact ⟨i, rfl, (List.getElem?_eq_some_iff.1 h1).1⟩
/-- A new object, black. -/
theorem oj_lenabs (s : Oj) : s.abs.length = s.ps.length := by simp [Oj.abs]
theorem thereK_abs (s : Oj) (k : Nat) : thereK s.abs k = thereK s.ps k := by
  unfold thereK
  congr 1
  refine List.filter_congr fun i _ => ?_
  unfold Oj.abs
  rw [List.getD_eq_getElem?_getD, List.getD_eq_getElem?_getD, List.getElem?_map]
  cases s.ps[i]? with
  | none => rfl
  | some p => cases p <;> rfl
theorem thereL_abs (s : Oj) : thereL s.abs = thereL s.ps := by unfold thereL; rw [oj_lenabs, thereK_abs]
end Go.Proofs.Ytjphckfbbiehdaa

namespace Go.Proofs.Ytjphckfbbiehdaa
open Go.RowKit
def barD (cols : List Int) (_o : Nat) (_old v : Val) : List Int := shadeC cols v
def barS (cols : List Int) (o : Nat) (_old v : Val) : List Int := if cols.getD o 0 = 2 ∧ whiteB cols v = true then cols.set o 1 else cols
def barY (cols : List Int) (_o : Nat) (old _v : Val) : List Int := shadeC cols old
/-- A barrier: its value, its method, what it does to the colours. -/
structure BarK where
  T : Nat
  fB : Nat
  f : List Int → Nat → Val → Val → List Int
abbrev BarK.r : Value := .agg #[]
def BarK.bv (b : BarK) : Value := .iface b.T BarK.r
def vin (n : Nat) (v : Val) : Prop := v.1 = true → ∃ z : Nat, v.2 = (z : Int) ∧ z < n
structure BarK.Ok (b : BarK) : Prop where
  len : ∀ cols o old v, (b.f cols o old v).length = cols.length
  m : ∀ w, (method 455 b.T BarK.r "ragpicker/tri.field").run Try.prog w = .ok (b.fB, BarK.r) w
  e : ∀ (args : Array Value) (w : World), (callFunc b.fB args).run Try.prog w = .ok (.enter b.fB args) w
  c : ∀ (Be : Nat) (bv : Value) (s : CoS) (w : World) (o : Nat) (old v : Val), (coI Be bv s).P w → s.cols.length ≤ 1000 → o < s.cols.length → vin s.cols.length old → vin s.cols.length v →
    Calls Try.prog b.fB #[BarK.r, .pointer (some ⟨Be, 0, none⟩), .int .i64 o, .agg #[.bool old.1, .int .i64 old.2], .agg #[.bool v.1, .int .i64 v.2]] w fun e w' => (∃ u, e = .returned u) ∧ Sep (coI Be bv s).fp w w' [coI Be bv (s.col (b.f s.cols o old v))]
theorem kenter_ofB {c : FuncId} {fn : Func} (hf : Try.prog.funcs[c]? = some fn) (hn : (fn.name == "runtime.NumGoroutine") = false) (hb : fn.body.isNone = false) (args : Array Value) (w : World) : (callFunc c args).run Try.prog w = .ok (.enter c args) w := by
  unfold callFunc
  simp [go_sem, hf]
  rw [if_neg (by simpa using hn), if_neg (by intro h; rw [h] at hb; cases hb)]
set_option maxRecDepth 100000 in
set_option maxHeartbeats 4000000 in
theorem fieldD_any (Be : Nat) (bv : Value) (s : CoS) (w : World) (o : Nat) (old v : Val) (hP : (coI Be bv s).P w) (hn : s.cols.length ≤ 1000) (hv : vin s.cols.length v) :
    Calls Try.prog 283 #[BarK.r, .pointer (some ⟨Be, 0, none⟩), .int .i64 o, .agg #[.bool old.1, .int .i64 old.2], .agg #[.bool v.1, .int .i64 v.2]] w fun e w' => (∃ u, e = .returned u) ∧ Sep (coI Be bv s).fp w w' [coI Be bv (s.col (shadeC s.cols v))] := by
  obtain ⟨F, hF⟩ : ∃ F, (coI Be bv s).fp = F := ⟨_, rfl⟩
  have hS0 := Sep.start hP
  rw [hF] at hS0 ⊢
  have C := hide (fun (X : World) (h : Sep F w X [coI Be bv s]) => shade_any (h.get 0 rfl) hn v hv)
  have HS0 := hide hS0
  obtain ⟨bv1, m1⟩ := old
  obtain ⟨bv2, m2⟩ := v
  dsimp only at C ⊢
  clear hS0 hP hv hF
  go_enter Try.func283, Try.ntmps283
  go_wp2_with fail
  have hS1 := ((HS0.out.alloc (.cells #[] 268)).alloc (.cells #[.bool bv1, .int .i64 m1] 107)).alloc (.cells #[.bool bv2, .int .i64 m2] 107)
  refine (C.out _ hS1).mono ?_
  rintro e w1 ⟨⟨u, rfl⟩, hP1⟩
  have HS2 := hide (hS1.call 0 rfl hP1)
  clear hS1 hP1 HS0 C
  go_wp2_with fail
  go_end0
  exact ⟨⟨_, rfl⟩, HS2.out⟩
set_option maxRecDepth 100000 in
set_option maxHeartbeats 4000000 in
theorem fieldY_any (Be : Nat) (bv : Value) (s : CoS) (w : World) (o : Nat) (old v : Val) (hP : (coI Be bv s).P w) (hn : s.cols.length ≤ 1000) (hv : vin s.cols.length old) :
    Calls Try.prog 285 #[BarK.r, .pointer (some ⟨Be, 0, none⟩), .int .i64 o, .agg #[.bool old.1, .int .i64 old.2], .agg #[.bool v.1, .int .i64 v.2]] w fun e w' => (∃ u, e = .returned u) ∧ Sep (coI Be bv s).fp w w' [coI Be bv (s.col (shadeC s.cols old))] := by
  obtain ⟨F, hF⟩ : ∃ F, (coI Be bv s).fp = F := ⟨_, rfl⟩
  have hS0 := Sep.start hP
  rw [hF] at hS0 ⊢
  have C := hide (fun (X : World) (h : Sep F w X [coI Be bv s]) => shade_any (h.get 0 rfl) hn old hv)
  have HS0 := hide hS0
  obtain ⟨bv1, m1⟩ := old
  obtain ⟨bv2, m2⟩ := v
  dsimp only at C ⊢
  clear hS0 hP hv hF
  go_enter Try.func285, Try.ntmps285
  go_wp2_with fail
  have hS1 := ((HS0.out.alloc (.cells #[] 270)).alloc (.cells #[.bool bv1, .int .i64 m1] 107)).alloc (.cells #[.bool bv2, .int .i64 m2] 107)
  refine (C.out _ hS1).mono ?_
  rintro e w1 ⟨⟨u, rfl⟩, hP1⟩
  have HS2 := hide (hS1.call 0 rfl hP1)
  clear hS1 hP1 HS0 C
  go_wp2_with fail
  go_end0
  exact ⟨⟨_, rfl⟩, HS2.out⟩
/-- A store into the colours. -/
theorem co_store {F : Nat → Prop} {W w : World} {Be : Nat} {bv : Value} {s : CoS} (h : Sep F W w [coI Be bv s]) {z gc : Nat} (hA : s.Ac = some ⟨gc, 0, none⟩) (y : Int) : Sep F W (w.setCell ⟨gc, z, none⟩ (.int .i64 y)) [coI Be bv (s.col (s.cols.set z y))] := by
  have hS1 : Sep F W w (coR Be bv s) := h.flat
  have he : rowI 3 1 s.Ac s.cols.length s.cc (ints s.cols) = rowI 3 1 (some ⟨gc, 0, none⟩) s.cols.length s.cc (ints s.cols) := by rw [hA]
  have hS2 : Sep F W w (blkI Be 213 (coC bv s) :: rowI 3 1 (some ⟨gc, 0, none⟩) s.cols.length s.cc (ints s.cols) :: rowI 3 1 s.Ag s.gone.length s.cg (ints s.gone) :: ojL s.oj) := by rw [← he]; exact hS1
  have hS3 := hS2.store 1 (g := gc) rfl z (.int .i64 y)
  rw [ints_setC] at hS3
  have h4 : Sep F W (w.setCell ⟨gc, z, none⟩ (.int .i64 y)) (coR Be bv (s.col (s.cols.set z y))) := by
    unfold coR coC CoS.col
    dsimp only
    rw [List.length_set, hA]
    simp only [List.set_cons_succ, List.set_cons_zero] at hS3
    unfold coC Oj.v at hS3
    rw [hA] at hS3
    exact hS3
  exact h4.fold
/-- The colours' cells. -/
theorem co_cell {Be : Nat} {bv : Value} {s : CoS} {w : World} (hP : (coI Be bv s).P w) {z : Nat} (hz : z < s.cols.length) : ∃ gc, s.Ac = some ⟨gc, 0, none⟩ ∧ w.cell? ⟨Be, 2, none⟩ = some (.slice (some ⟨gc, 0, none⟩) s.cols.length s.cc) ∧ w.cell? ⟨gc, z, none⟩ = some (.int .i64 (s.cols.getD z 0)) ∧ w.frozen? ⟨gc, z, none⟩ = false ∧ gc < w.heap.size ∧ Be < w.heap.size ∧ Be ≠ gc := by
  have hS := (Sep.start hP).flat
  obtain ⟨gc, hA, hzl, e0, e1, e2⟩ := int_at (show (rowI 3 1 s.Ac s.cols.length s.cc (ints s.cols)).P w from hS.get 1 rfl) hz
  obtain ⟨b1, b2, b3, _⟩ := hS.rules 0 (g := Be) (t := 213) rfl
  have b5 := (b1 2).trans (show _ = some (.slice s.Ac s.cols.length s.cc) from rfl)
  rw [hA] at b5
  exact ⟨gc, hA, b5, e0, e1, e2, b3, fun e => hS.other (a := 0) (b := 1) rfl rfl (by omega) Be rfl (by show (Value.slice s.Ac s.cols.length s.cc).ownBlock = some Be; rw [hA, e]; rfl)⟩
set_option maxRecDepth 100000 in
set_option maxHeartbeats 4000000 in
theorem fieldS_any (Be : Nat) (bv : Value) (s : CoS) (w : World) (o : Nat) (old v : Val) (hP : (coI Be bv s).P w) (hn : s.cols.length ≤ 1000) (ho : o < s.cols.length) (hv : vin s.cols.length v) :
    Calls Try.prog 284 #[BarK.r, .pointer (some ⟨Be, 0, none⟩), .int .i64 o, .agg #[.bool old.1, .int .i64 old.2], .agg #[.bool v.1, .int .i64 v.2]] w fun e w' => (∃ u, e = .returned u) ∧ Sep (coI Be bv s).fp w w' [coI Be bv (s.col (barS s.cols o old v))] := by
  obtain ⟨F, hF⟩ : ∃ F, (coI Be bv s).fp = F := ⟨_, rfl⟩
  have hS0 := ((Sep.start hP).alloc (.cells #[] 269)).alloc (.cells #[.bool old.1, .int .i64 old.2] 107)
  rw [hF] at hS0 ⊢
  obtain ⟨g, hg⟩ : ∃ g, ((w.alloc (.cells #[] 269)).alloc (.cells #[.bool old.1, .int .i64 old.2] 107)).heap.size = g := ⟨_, rfl⟩
  have hS1 := hS0.blkAt 107 #[.bool v.1, .int .i64 v.2] hg
  have hg2 : w.heap.size + 1 + 1 = g := by rw [← hg]; simp
  obtain ⟨W, hW⟩ : ∃ W, ((w.alloc (.cells #[] 269)).alloc (.cells #[.bool old.1, .int .i64 old.2] 107)).alloc (.cells #[.bool v.1, .int .i64 v.2] 107) = W := ⟨_, rfl⟩
  rw [hW] at hS1
  obtain ⟨gc, hA, c0, c1, c2, c3, c4, n1⟩ := co_cell (hS1.get 0 rfl) ho
  obtain ⟨x1, x2, x3, _⟩ := hS1.rules 1 (g := g) (t := 107) rfl
  have x5 := (x1 0).trans (show _ = some (.bool v.1) from rfl)
  have x6 := (x1 1).trans (show _ = some (.int .i64 v.2) from rfl)
  have CW := hide (white_any (hS1.get 0 rfl) hn v hv)
  have HS1 := hide hS1
  have t1 : decide ((o : Int) < 0) = false := by simp
  have t2 : decide ((s.cols.length : Int) ≤ (o : Int)) = false := by simp; omega
  have t3 : (0 : Int) ≤ (o : Int) := by omega
  have t4 : (o : Int) < (s.cols.length : Int) := by omega
  unfold barS
  obtain ⟨b, hb⟩ : ∃ b, whiteB s.cols v = b := ⟨_, rfl⟩
  rw [hb] at CW ⊢
  obtain ⟨y, hy⟩ : ∃ y, s.cols.getD o 0 = y := ⟨_, rfl⟩
  rw [hy] at c1 ⊢
  obtain ⟨m, hm⟩ : ∃ m, s.cols.length = m := ⟨_, rfl⟩
  have HM := hide hm
  have HA := hide hA
  rw [hm] at c0 hn ho t2 t4
  obtain ⟨bv1, m1⟩ := old
  obtain ⟨bv2, m2⟩ := v
  dsimp only at CW hW HS1 x5 x6 ⊢
  clear hS0 hS1 hP hv hF hg x1 hb hm hy hA
  by_cases hy2 : y = 2
  · subst hy2
    cases b with
    | false =>
      rw [if_neg (by simp)]
      go_enter Try.func284, Try.ntmps284
      go_wp2_with fail
      refine CW.out.mono ?_
      rintro e w1 ⟨rfl, hb1⟩
      have HS2 := hide ((HS1.out.below hb1).sub (List.sublist_append_left [_] [_]))
      clear hb1 HS1 CW c0 c1 c2 c3 c4 x2 x3 x5 x6
      go_wp2_with fail
      go_end0
      exact ⟨⟨_, rfl⟩, HS2.out⟩
    | true =>
      rw [if_pos ⟨rfl, rfl⟩]
      go_enter Try.func284, Try.ntmps284
      go_wp2_with fail
      refine CW.out.mono ?_
      rintro e w1 ⟨rfl, hb1⟩
      have hS2 := (HS1.out.below hb1).sub (List.sublist_append_left [_] [_])
      obtain ⟨gc2, hA2, c0', c1', c2', c3', c4', _⟩ := co_cell (hS2.get 0 rfl) (show o < s.cols.length by rw [HM.out]; exact ho)
      obtain rfl : gc2 = gc := by have h := HA.out; rw [h] at hA2; injection hA2 with h2; injection h2 with h3; exact h3.symm
      rw [HM.out] at c0'
      have HS3 := hide (co_store hS2 HA.out (z := o) 1)
      clear hb1 HS1 CW c0 c1 c2 c3 c4 x2 x3 x5 x6 hS2 hA2
      go_wp2_with fail
      go_end0
      exact ⟨⟨_, rfl⟩, HS3.out⟩
  · have y1 : (y == 2) = false := by simp [hy2]
    rw [if_neg (fun h => hy2 h.1)]
    have HS2 := hide (HS1.out.sub (List.sublist_append_left [_] [_]))
    clear hy2
    go_enter Try.func284, Try.ntmps284
    go_wp2_with fail
    go_end0
    exact ⟨⟨_, rfl⟩, HS2.out⟩
def barOf (k : Nat) : BarK := if k = 1 then ⟨268, 283, barD⟩ else if k = 2 then ⟨269, 284, barS⟩ else ⟨270, 285, barY⟩
theorem barOf_ok (k : Nat) : (barOf k).Ok := by
  unfold barOf
  split
  · exact ⟨fun _ _ _ _ => shadeC_len _ _, fun w => by kernel_rfl, kenter_ofB Try.func283 (by kernel_rfl) rfl, fun Be bv s w o old v hP hn _ _ hv => fieldD_any Be bv s w o old v hP hn hv⟩
  · split
    · exact ⟨fun cols o old v => by unfold barS; dsimp only; split <;> simp, fun w => by kernel_rfl, kenter_ofB Try.func284 (by kernel_rfl) rfl, fun Be bv s w o old v hP hn ho _ hv => fieldS_any Be bv s w o old v hP hn ho hv⟩
    · exact ⟨fun _ _ _ _ => shadeC_len _ _, fun w => by kernel_rfl, kenter_ofB Try.func285 (by kernel_rfl) rfl, fun Be bv s w o old v hP hn _ hold _ => fieldY_any Be bv s w o old v hP hn hold⟩
end Go.Proofs.Ytjphckfbbiehdaa

namespace Go.Proofs.Ytjphckfbbiehdaa
open Go.RowKit
def CoS.put (s : CoS) (i k : Nat) (v : Val) (p : Po) : CoS := { s with oj := s.oj.put i k v p }
end Go.Proofs.Ytjphckfbbiehdaa

namespace Go.Proofs.Ytjphckfbbiehdaa
open Go.RowKit
def Idl.set (s : Idl) (r : Nat) (v : Val) : Idl := { s with regs := s.regs.set r v }
end Go.Proofs.Ytjphckfbbiehdaa
