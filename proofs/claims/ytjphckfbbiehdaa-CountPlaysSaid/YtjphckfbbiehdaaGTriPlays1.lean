/- A memory with colours: the first grey object; a new one. A memory with colours: what is done where a value comes to stand in a field. A memory with colours: a field becomes a value. -/
import Derived.Test.YtjphckfbbiehdaaGTriPlays0
set_option linter.unusedSimpArgs false
set_option linter.unusedVariables false
namespace Go.Proofs.Ytjphckfbbiehdaa
open Go.RowKit

def greyF (l cols : List Int) : Int := match l.find? (fun x => decide (cols.getD x.toNat 0 = 1)) with | some x => x | none => -1
theorem thereL_nat {α : Type} {l : List (Option α)} {x : Int} (h : x ∈ thereL l) : ∃ z : Nat, x = (z : Int) ∧ z < l.length := by
  obtain ⟨i, a, rfl, h1⟩ := (mem_thereL l x).1 h
  exact ⟨i, rfl, (List.getElem?_eq_some_iff.1 h1).1⟩

set_option maxRecDepth 100000 in
set_option maxHeartbeats 4000000 in
theorem grey_any {Be : Nat} {bv : Value} {s : CoS} {w : World} (hP : (coI Be bv s).P w) (hl : s.cols.length = s.oj.ps.length) (hn : s.oj.ps.length ≤ 1000) :
    Calls Try.prog 155 #[.pointer (some ⟨Be, 0, none⟩)] w fun e w' => e = .returned (.int .i64 (greyF (thereL s.oj.ps) s.cols)) ∧ Below w.heap.size w w' := by
  have hS := (Sep.start hP).flat
  obtain ⟨b1, b2, b3, _⟩ := hS.rules 0 (g := Be) (t := 213) rfl
  have b5 := (b1 0).trans (show _ = some (.slice s.oj.As s.oj.ps.length s.oj.c) from rfl)
  have CT := hide (oThere_any w s.oj.As s.oj.ps.length s.oj.c s.oj.ps hn (hS.rd_ 3 rfl))
  have HPB := hide (fun (X : World) (hb : Below w.heap.size w X) => ((Sep.start hP).below hb).get 0 rfl)
  have HTN := hide (fun x (h : x ∈ thereL s.oj.ps) => thereL_nat h)
  have HTL := hide (thereK_len s.oj.ps s.oj.ps.length)
  obtain ⟨L, hL⟩ : ∃ l, thereL s.oj.ps = l := ⟨_, rfl⟩
  have hTL2 : L.length ≤ 1000 := by have h1 := HTL.out; have h2 : L.length = (thereK s.oj.ps s.oj.ps.length).length := by rw [← hL]; rfl
                                    omega
  rw [hL] at CT HTN ⊢
  obtain ⟨N, hN⟩ : ∃ n, s.oj.ps.length = n := ⟨_, rfl⟩
  rw [hN] at b5 CT hl HTN hn
  obtain ⟨C, hC⟩ : ∃ c, s.cols = c := ⟨_, rfl⟩
  have HC := hide hC
  rw [hC] at hl ⊢
  have HCL := hide hl
  clear hS b1 hP hL hC HTL hl hN
  go_enter Try.func155, Try.ntmps155
  go_wp2_with fail
  refine CT.out.mono ?_
  rintro e w1 ⟨A, c1, rfl, hP1⟩
  obtain ⟨m, hm⟩ : ∃ m, L.length = m := ⟨_, rfl⟩
  rw [hm] at hP1 hTL2 ⊢
  have HM := hide hm
  have HP1 := hide hP1
  clear hP1 hm b2 b3 b5 CT
  go_wp2_with fail
  go_loopw [11] (fun i wr => ∃ k : Nat, k ≤ m ∧ i = .int .i64 k ∧ Hid (∀ x ∈ L.take k, C.getD x.toNat 0 ≠ 1) ∧ Sep No w wr [rowI 3 1 A m c1 (ints L)]) (fun i _ => m - (intOf i).toNat)
  case atStart => exact ⟨0, by omega, rfl, by simp [Hid], HP1.out⟩
  case round =>
    clear HP1
    obtain ⟨k, hk, rfl, HG, hS⟩ := hrel
    by_cases hlt : k < m
    · have hkl : k < L.length := by rw [HM.out]; exact hlt
      obtain ⟨ad, hA, _, had, hc⟩ := (hS.rd_ 0 rfl).at_ hlt
      have e0 := hc (.int .i64 L[k]) (by simp [ints, List.getElem?_eq_getElem hkl])
      have hT := List.take_succ_eq_append_getElem hkl
      have hmem : L[k] ∈ L := List.getElem_mem hkl
      have hfi : L = L.take k ++ L[k] :: L.drop (k + 1) := by rw [← List.drop_eq_getElem_cons hkl, List.take_append_drop]
      obtain ⟨x, hx⟩ : ∃ x, L[k] = x := ⟨_, rfl⟩
      rw [hx] at e0 hT hmem hfi
      obtain ⟨z, rfl, hz⟩ := HTN.out x hmem
      have hCo := (Sep.start (HPB.out wr hS.below_)).flat
      obtain ⟨b1, b2, b3, _⟩ := hCo.rules 0 (g := Be) (t := 213) rfl
      have b5 := (b1 2).trans (show _ = some (.slice s.Ac s.cols.length s.cc) from rfl)
      have hrow : (rowI 3 1 s.Ac s.cols.length s.cc (ints s.cols)).P wr := hCo.get 1 rfl
      rw [HC.out, HCL.out] at b5 hrow
      obtain ⟨gc, hA2, _, f0, _, f2⟩ := int_at hrow hz
      rw [hA2] at b5
      obtain ⟨y, hy⟩ : ∃ y, C.getD z 0 = y := ⟨_, rfl⟩
      rw [hy] at f0
      have t1 : decide ((z : Int) < 0) = false := by simp
      have t2 : decide ((N : Int) ≤ (z : Int)) = false := by simp; omega
      have HT := hide hT
      have HFI := hide hfi
      have HS := hide hS
      have HY := hide hy
      subst hA
      clear hc hx hmem hfi hT hCo b1 hrow hA2 hS hy
      by_cases hy1 : y = 1
      · subst hy1
        go_wp2_with fail
        go_ret
        refine ⟨?_, HS.out.below_⟩
        have h1 : greyF L C = (z : Int) := by
          unfold greyF
          have h3 : (L.take k).find? (fun x => decide (C.getD x.toNat 0 = 1)) = none := by
            rw [List.find?_eq_none]
            intro x hx h
            exact HG.out x hx (of_decide_eq_true h)
          rw [HFI.out, List.find?_append, h3, Option.none_or, List.find?_cons, show ((z : Int)).toNat = z from by omega, HY.out]
          simp
        rw [h1]
        rfl
      · have y1 : (y == 1) = false := by simp [hy1]
        have HY1 := hide hy1
        clear hy1
        go_wp2_with fail
        go_roundw
        case rel => exact ⟨k + 1, by omega, by go_num, by
          show ∀ x ∈ L.take (k + 1), C.getD x.toNat 0 ≠ 1
          rw [HT.out]
          intro x hx
          rcases List.mem_append.1 hx with h | h
          · exact HG.out x h
          · rw [List.mem_singleton.1 h, show ((z : Int)).toNat = z from by omega, HY.out]; exact HY1.out, HS.out⟩
        case measure => simp [intOf]; omega
    · obtain rfl : k = m := by omega
      have h := HG.out
      rw [List.take_of_length_le (by rw [HM.out]; omega)] at h
      have h1 : greyF L C = -1 := by
        unfold greyF
        have h3 : L.find? (fun x => decide (C.getD x.toNat 0 = 1)) = none := by
          rw [List.find?_eq_none]
          intro x hx h2
          exact h x hx (of_decide_eq_true h2)
        rw [h3]
      have H1 := hide h1
      have HS := hide hS
      clear h h1 hS
      go_wp2_with fail
      go_ret
      refine ⟨?_, HS.out.below_⟩
      rw [H1.out]
      rfl

/-- A new object, black. -/
theorem oj_lenabs (s : Oj) : s.abs.length = s.ps.length := by simp [Oj.abs]
theorem thereK_abs (s : Oj) (k : Nat) : thereK s.abs k = thereK s.ps k := by
  unfold thereK
  congr 1
  refine List.filter_congr fun i _ => ?_
  unfold Oj.abs
  rw [List.getD_eq_getElem?_getD, List.getD_eq_getElem?_getD, List.getElem?_map]
  cases s.ps[i]? with
  | none => rfl
  | some p => cases p <;> rfl
theorem thereL_abs (s : Oj) : thereL s.abs = thereL s.ps := by unfold thereL; rw [oj_lenabs, thereK_abs]

theorem sep_gather {F : Nat → Prop} {W w : World} {b c g : Item} {L : List Item} (h : Sep F W w (b :: c :: g :: L)) : Sep F W w [allI (b :: L), c, g] :=
  (h.perm (l := (b :: L) ++ [c, g]) (List.Perm.cons b (List.perm_append_comm (l₁ := [c, g]) (l₂ := L)))).join
theorem sep_ungather {F : Nat → Prop} {W w : World} {b c g : Item} {L : List Item} (h : Sep F W w [allI (b :: L), c, g]) : Sep F W w (b :: c :: g :: L) :=
  (Sep.split h).perm (List.Perm.cons b (List.perm_append_comm (l₁ := L) (l₂ := [c, g])))

set_option maxRecDepth 100000 in
set_option maxHeartbeats 8000000 in
theorem cnew_any {Be : Nat} {bv : Value} {s : CoS} {w : World} (hP : (coI Be bv s).P w) (hl : s.cols.length = s.oj.ps.length) (hn : s.oj.ps.length ≤ 900) {n : Nat} (h4 : n ≤ 4) :
    Calls Try.prog 281 #[.pointer (some ⟨Be, 0, none⟩), .int .i64 n] w fun e w' =>
      (24 ≤ (thereL s.oj.ps).length ∧ e = .returned (.tuple #[.int .i64 0, .int .i64 6]) ∧ Below w.heap.size w w') ∨
      ((thereL s.oj.ps).length < 24 ∧ e = .returned (.tuple #[.int .i64 s.oj.ps.length, .int .i64 0]) ∧ ∃ s', s'.oj.abs = s.oj.abs ++ [some (zeroVs n)] ∧ s'.cols = s.cols ++ [2] ∧ s'.gone = s.gone ∧ Sep (coI Be bv s).fp w w' [coI Be bv s']) := by
  obtain ⟨F, hF⟩ : ∃ F, (coI Be bv s).fp = F := ⟨_, rfl⟩
  have hS : Sep F w w (coR Be bv s) := by rw [← hF]; exact (Sep.start hP).flat
  rw [hF]
  obtain ⟨b1, b2, b3, _⟩ := hS.rules 0 (g := Be) (t := 213) rfl
  have b5 := (b1 0).trans (show _ = some (.slice s.oj.As s.oj.ps.length s.oj.c) from rfl)
  have CT := hide (oThere_any w s.oj.As s.oj.ps.length s.oj.c s.oj.ps (by omega) (hS.rd_ 3 rfl))
  have HS := hide hS
  obtain ⟨M, hM⟩ : ∃ l, (thereL s.oj.ps).length = l := ⟨_, rfl⟩
  rw [hM] at CT ⊢
  have hM2 : M ≤ 900 := by have h1 := thereK_len s.oj.ps s.oj.ps.length; have h2 : (thereK s.oj.ps s.oj.ps.length).length = M := hM; omega
  have HL := hide hl
  clear hS b1 hP hF hM hl
  by_cases h24 : 24 ≤ M
  · have t1 : decide ((24 : Int) ≤ (M : Int)) = true := by simp; omega
    have t2 : decide (24 ≤ M) = true := by simp; omega
    go_enter Try.func281, Try.ntmps281
    go_wp2_with fail
    refine CT.out.mono ?_
    rintro e w1 ⟨A, c1, rfl, hP1⟩
    have HB := hide hP1.below_
    clear hP1
    go_wp2_with fail
    refine bodyPost_ret (v := .tuple #[.int .i64 0, .int .i64 6]) (by simp [results, Try.results281, go_sem]) rfl (.inl ⟨h24, rfl, HB.out⟩)
  · have t1 : decide ((24 : Int) ≤ (M : Int)) = false := by simp; omega
    have t2 : decide (24 ≤ M) = false := by simp; omega
    go_enter Try.func281, Try.ntmps281
    go_wp2_with fail
    refine CT.out.mono ?_
    rintro e w1 ⟨A, c1, rfl, hP1⟩
    have hS1 := HS.out.below hP1.below_
    obtain ⟨b1, b2, b3, _⟩ := hS1.rules 0 (g := Be) (t := 213) rfl
    have b6 := (b1 2).trans (show _ = some (.slice s.Ac s.cols.length s.cc) from rfl)
    have hS1b : Sep F w w1 (blkI Be 213 (coC bv s) :: rowI 3 1 s.Ac s.cols.length s.cc (ints s.cols) :: rowI 3 1 s.Ag s.gone.length s.cg (ints s.gone) :: ojL s.oj) := hS1
    obtain ⟨m, hm⟩ : ∃ m, s.cols.length = m := ⟨_, rfl⟩
    have HMM := hide hm
    rw [hm] at b6 hS1b
    have hm9 : m ≤ 900 := by have h1 := HL.out; omega
    clear hP1 b1 hS1 b5 HS CT hm
    go_wp2_with (first
      | (at_builtin
         refine wpList_app1 (cs := #[.int .i64 2]) rfl (.tmp 17) (.tmp 18) 35 rfl (F := F) (W := w) sInt (items := _ :: _ :: _ :: _) hS1b 1 (n := m) rfl rfl rfl (by simp) rfl rfl (by omega) ?_
         intro A7 c7 w7 hS7 hC7
         obtain ⟨k1, k2, k3, _⟩ := hS7.rules 0 (g := Be) (t := 213) rfl))
    have hS8 := sep_gather (hS7.set_ 0 (g := Be) (t := 213) rfl 2 (.slice A7 (m + 1) c7))
    have CN := onew_any ((Sep.start (hS8.get 0 rfl)).flat) (s := s.oj) rfl (by omega) h4
    refine CN.mono ?_
    rintro e w9 ⟨rfl, As, cA, B, gB, hP9⟩
    have hS9 := sep_ungather (hS8.call 0 rfl hP9.fold)
    have HFIN := hide (show Sep F w w9 [coI Be bv ⟨s.oj.new As cA B gB n, A7, c7, s.cols ++ [2], s.Ag, s.cg, s.gone⟩] from by
      have h : Sep F w w9 (coR Be bv ⟨s.oj.new As cA B gB n, A7, c7, s.cols ++ [2], s.Ag, s.cg, s.gone⟩) := by
        unfold coR coC
        dsimp only
        rw [List.length_append, List.length_singleton, HMM.out, show ints (s.cols ++ [2]) = ints s.cols ++ [.int .i64 2] from by simp [ints]]
        exact hS9
      exact h.fold)
    clear hS9 hP9 hS8 hS7 hC7 k1 k2 k3 CN
    go_wp2_with fail
    refine bodyPost_ret (v := .tuple #[.int .i64 s.oj.ps.length, .int .i64 0]) (by simp [results, Try.results281, go_sem]) rfl (.inr ⟨by omega, rfl, ⟨s.oj.new As cA B gB n, A7, c7, s.cols ++ [2], s.Ag, s.cg, s.gone⟩, Oj.abs_new _ _ _ _ _ _, rfl, rfl, HFIN.out⟩)
end Go.Proofs.Ytjphckfbbiehdaa

namespace Go.Proofs.Ytjphckfbbiehdaa
open Go.RowKit

def barD (cols : List Int) (_o : Nat) (_old v : Val) : List Int := shadeC cols v
def barS (cols : List Int) (o : Nat) (_old v : Val) : List Int := if cols.getD o 0 = 2 ∧ whiteB cols v = true then cols.set o 1 else cols
def barY (cols : List Int) (_o : Nat) (old _v : Val) : List Int := shadeC cols old
/-- A barrier: its value, its method, what it does to the colours. -/
structure BarK where
  T : Nat
  fB : Nat
  f : List Int → Nat → Val → Val → List Int
abbrev BarK.r : Value := .agg #[]
def BarK.bv (b : BarK) : Value := .iface b.T BarK.r
def vin (n : Nat) (v : Val) : Prop := v.1 = true → ∃ z : Nat, v.2 = (z : Int) ∧ z < n
structure BarK.Ok (b : BarK) : Prop where
  len : ∀ cols o old v, (b.f cols o old v).length = cols.length
  m : ∀ w, (method 455 b.T BarK.r "ragpicker/tri.field").run Try.prog w = .ok (b.fB, BarK.r) w
  e : ∀ (args : Array Value) (w : World), (callFunc b.fB args).run Try.prog w = .ok (.enter b.fB args) w
  c : ∀ (Be : Nat) (bv : Value) (s : CoS) (w : World) (o : Nat) (old v : Val), (coI Be bv s).P w → s.cols.length ≤ 1000 → o < s.cols.length → vin s.cols.length old → vin s.cols.length v →
    Calls Try.prog b.fB #[BarK.r, .pointer (some ⟨Be, 0, none⟩), .int .i64 o, .agg #[.bool old.1, .int .i64 old.2], .agg #[.bool v.1, .int .i64 v.2]] w fun e w' => (∃ u, e = .returned u) ∧ Sep (coI Be bv s).fp w w' [coI Be bv (s.col (b.f s.cols o old v))]

theorem kenter_ofB {c : FuncId} {fn : Func} (hf : Try.prog.funcs[c]? = some fn) (hn : (fn.name == "runtime.NumGoroutine") = false) (hb : fn.body.isNone = false) (args : Array Value) (w : World) : (callFunc c args).run Try.prog w = .ok (.enter c args) w := by
  unfold callFunc
  simp [go_sem, hf]
  rw [if_neg (by simpa using hn), if_neg (by intro h; rw [h] at hb; cases hb)]

set_option maxRecDepth 100000 in
set_option maxHeartbeats 4000000 in
theorem fieldD_any (Be : Nat) (bv : Value) (s : CoS) (w : World) (o : Nat) (old v : Val) (hP : (coI Be bv s).P w) (hn : s.cols.length ≤ 1000) (hv : vin s.cols.length v) :
    Calls Try.prog 283 #[BarK.r, .pointer (some ⟨Be, 0, none⟩), .int .i64 o, .agg #[.bool old.1, .int .i64 old.2], .agg #[.bool v.1, .int .i64 v.2]] w fun e w' => (∃ u, e = .returned u) ∧ Sep (coI Be bv s).fp w w' [coI Be bv (s.col (shadeC s.cols v))] := by
  obtain ⟨F, hF⟩ : ∃ F, (coI Be bv s).fp = F := ⟨_, rfl⟩
  have hS0 := Sep.start hP
  rw [hF] at hS0 ⊢
  have C := hide (fun (X : World) (h : Sep F w X [coI Be bv s]) => shade_any (h.get 0 rfl) hn v hv)
  have HS0 := hide hS0
  obtain ⟨bv1, m1⟩ := old
  obtain ⟨bv2, m2⟩ := v
  dsimp only at C ⊢
  clear hS0 hP hv hF
  go_enter Try.func283, Try.ntmps283
  go_wp2_with fail
  have hS1 := ((HS0.out.alloc (.cells #[] 268)).alloc (.cells #[.bool bv1, .int .i64 m1] 107)).alloc (.cells #[.bool bv2, .int .i64 m2] 107)
  refine (C.out _ hS1).mono ?_
  rintro e w1 ⟨⟨u, rfl⟩, hP1⟩
  have HS2 := hide (hS1.call 0 rfl hP1)
  clear hS1 hP1 HS0 C
  go_wp2_with fail
  go_end0
  exact ⟨⟨_, rfl⟩, HS2.out⟩
set_option maxRecDepth 100000 in
set_option maxHeartbeats 4000000 in
theorem fieldY_any (Be : Nat) (bv : Value) (s : CoS) (w : World) (o : Nat) (old v : Val) (hP : (coI Be bv s).P w) (hn : s.cols.length ≤ 1000) (hv : vin s.cols.length old) :
    Calls Try.prog 285 #[BarK.r, .pointer (some ⟨Be, 0, none⟩), .int .i64 o, .agg #[.bool old.1, .int .i64 old.2], .agg #[.bool v.1, .int .i64 v.2]] w fun e w' => (∃ u, e = .returned u) ∧ Sep (coI Be bv s).fp w w' [coI Be bv (s.col (shadeC s.cols old))] := by
  obtain ⟨F, hF⟩ : ∃ F, (coI Be bv s).fp = F := ⟨_, rfl⟩
  have hS0 := Sep.start hP
  rw [hF] at hS0 ⊢
  have C := hide (fun (X : World) (h : Sep F w X [coI Be bv s]) => shade_any (h.get 0 rfl) hn old hv)
  have HS0 := hide hS0
  obtain ⟨bv1, m1⟩ := old
  obtain ⟨bv2, m2⟩ := v
  dsimp only at C ⊢
  clear hS0 hP hv hF
  go_enter Try.func285, Try.ntmps285
  go_wp2_with fail
  have hS1 := ((HS0.out.alloc (.cells #[] 270)).alloc (.cells #[.bool bv1, .int .i64 m1] 107)).alloc (.cells #[.bool bv2, .int .i64 m2] 107)
  refine (C.out _ hS1).mono ?_
  rintro e w1 ⟨⟨u, rfl⟩, hP1⟩
  have HS2 := hide (hS1.call 0 rfl hP1)
  clear hS1 hP1 HS0 C
  go_wp2_with fail
  go_end0
  exact ⟨⟨_, rfl⟩, HS2.out⟩

/-- A store into the colours. -/
theorem co_store {F : Nat → Prop} {W w : World} {Be : Nat} {bv : Value} {s : CoS} (h : Sep F W w [coI Be bv s]) {z gc : Nat} (hA : s.Ac = some ⟨gc, 0, none⟩) (y : Int) : Sep F W (w.setCell ⟨gc, z, none⟩ (.int .i64 y)) [coI Be bv (s.col (s.cols.set z y))] := by
  have hS1 : Sep F W w (coR Be bv s) := h.flat
  have he : rowI 3 1 s.Ac s.cols.length s.cc (ints s.cols) = rowI 3 1 (some ⟨gc, 0, none⟩) s.cols.length s.cc (ints s.cols) := by rw [hA]
  have hS2 : Sep F W w (blkI Be 213 (coC bv s) :: rowI 3 1 (some ⟨gc, 0, none⟩) s.cols.length s.cc (ints s.cols) :: rowI 3 1 s.Ag s.gone.length s.cg (ints s.gone) :: ojL s.oj) := by rw [← he]; exact hS1
  have hS3 := hS2.store 1 (g := gc) rfl z (.int .i64 y)
  rw [ints_setC] at hS3
  have h4 : Sep F W (w.setCell ⟨gc, z, none⟩ (.int .i64 y)) (coR Be bv (s.col (s.cols.set z y))) := by
    unfold coR coC CoS.col
    dsimp only
    rw [List.length_set, hA]
    simp only [List.set_cons_succ, List.set_cons_zero] at hS3
    unfold coC Oj.v at hS3
    rw [hA] at hS3
    exact hS3
  exact h4.fold
/-- The colours' cells. -/
theorem co_cell {Be : Nat} {bv : Value} {s : CoS} {w : World} (hP : (coI Be bv s).P w) {z : Nat} (hz : z < s.cols.length) : ∃ gc, s.Ac = some ⟨gc, 0, none⟩ ∧ w.cell? ⟨Be, 2, none⟩ = some (.slice (some ⟨gc, 0, none⟩) s.cols.length s.cc) ∧ w.cell? ⟨gc, z, none⟩ = some (.int .i64 (s.cols.getD z 0)) ∧ w.frozen? ⟨gc, z, none⟩ = false ∧ gc < w.heap.size ∧ Be < w.heap.size ∧ Be ≠ gc := by
  have hS := (Sep.start hP).flat
  obtain ⟨gc, hA, hzl, e0, e1, e2⟩ := int_at (show (rowI 3 1 s.Ac s.cols.length s.cc (ints s.cols)).P w from hS.get 1 rfl) hz
  obtain ⟨b1, b2, b3, _⟩ := hS.rules 0 (g := Be) (t := 213) rfl
  have b5 := (b1 2).trans (show _ = some (.slice s.Ac s.cols.length s.cc) from rfl)
  rw [hA] at b5
  exact ⟨gc, hA, b5, e0, e1, e2, b3, fun e => hS.other (a := 0) (b := 1) rfl rfl (by omega) Be rfl (by show (Value.slice s.Ac s.cols.length s.cc).ownBlock = some Be; rw [hA, e]; rfl)⟩

set_option maxRecDepth 100000 in
set_option maxHeartbeats 4000000 in
theorem fieldS_any (Be : Nat) (bv : Value) (s : CoS) (w : World) (o : Nat) (old v : Val) (hP : (coI Be bv s).P w) (hn : s.cols.length ≤ 1000) (ho : o < s.cols.length) (hv : vin s.cols.length v) :
    Calls Try.prog 284 #[BarK.r, .pointer (some ⟨Be, 0, none⟩), .int .i64 o, .agg #[.bool old.1, .int .i64 old.2], .agg #[.bool v.1, .int .i64 v.2]] w fun e w' => (∃ u, e = .returned u) ∧ Sep (coI Be bv s).fp w w' [coI Be bv (s.col (barS s.cols o old v))] := by
  obtain ⟨F, hF⟩ : ∃ F, (coI Be bv s).fp = F := ⟨_, rfl⟩
  have hS0 := ((Sep.start hP).alloc (.cells #[] 269)).alloc (.cells #[.bool old.1, .int .i64 old.2] 107)
  rw [hF] at hS0 ⊢
  obtain ⟨g, hg⟩ : ∃ g, ((w.alloc (.cells #[] 269)).alloc (.cells #[.bool old.1, .int .i64 old.2] 107)).heap.size = g := ⟨_, rfl⟩
  have hS1 := hS0.blkAt 107 #[.bool v.1, .int .i64 v.2] hg
  have hg2 : w.heap.size + 1 + 1 = g := by rw [← hg]; simp
  obtain ⟨W, hW⟩ : ∃ W, ((w.alloc (.cells #[] 269)).alloc (.cells #[.bool old.1, .int .i64 old.2] 107)).alloc (.cells #[.bool v.1, .int .i64 v.2] 107) = W := ⟨_, rfl⟩
  rw [hW] at hS1
  obtain ⟨gc, hA, c0, c1, c2, c3, c4, n1⟩ := co_cell (hS1.get 0 rfl) ho
  obtain ⟨x1, x2, x3, _⟩ := hS1.rules 1 (g := g) (t := 107) rfl
  have x5 := (x1 0).trans (show _ = some (.bool v.1) from rfl)
  have x6 := (x1 1).trans (show _ = some (.int .i64 v.2) from rfl)
  have CW := hide (white_any (hS1.get 0 rfl) hn v hv)
  have HS1 := hide hS1
  have t1 : decide ((o : Int) < 0) = false := by simp
  have t2 : decide ((s.cols.length : Int) ≤ (o : Int)) = false := by simp; omega
  have t3 : (0 : Int) ≤ (o : Int) := by omega
  have t4 : (o : Int) < (s.cols.length : Int) := by omega
  unfold barS
  obtain ⟨b, hb⟩ : ∃ b, whiteB s.cols v = b := ⟨_, rfl⟩
  rw [hb] at CW ⊢
  obtain ⟨y, hy⟩ : ∃ y, s.cols.getD o 0 = y := ⟨_, rfl⟩
  rw [hy] at c1 ⊢
  obtain ⟨m, hm⟩ : ∃ m, s.cols.length = m := ⟨_, rfl⟩
  have HM := hide hm
  have HA := hide hA
  rw [hm] at c0 hn ho t2 t4
  obtain ⟨bv1, m1⟩ := old
  obtain ⟨bv2, m2⟩ := v
  dsimp only at CW hW HS1 x5 x6 ⊢
  clear hS0 hS1 hP hv hF hg x1 hb hm hy hA
  by_cases hy2 : y = 2
  · subst hy2
    cases b with
    | false =>
      rw [if_neg (by simp)]
      go_enter Try.func284, Try.ntmps284
      go_wp2_with fail
      refine CW.out.mono ?_
      rintro e w1 ⟨rfl, hb1⟩
      have HS2 := hide ((HS1.out.below hb1).sub (List.sublist_append_left [_] [_]))
      clear hb1 HS1 CW c0 c1 c2 c3 c4 x2 x3 x5 x6
      go_wp2_with fail
      go_end0
      exact ⟨⟨_, rfl⟩, HS2.out⟩
    | true =>
      rw [if_pos ⟨rfl, rfl⟩]
      go_enter Try.func284, Try.ntmps284
      go_wp2_with fail
      refine CW.out.mono ?_
      rintro e w1 ⟨rfl, hb1⟩
      have hS2 := (HS1.out.below hb1).sub (List.sublist_append_left [_] [_])
      obtain ⟨gc2, hA2, c0', c1', c2', c3', c4', _⟩ := co_cell (hS2.get 0 rfl) (show o < s.cols.length by rw [HM.out]; exact ho)
      obtain rfl : gc2 = gc := by have h := HA.out; rw [h] at hA2; injection hA2 with h2; injection h2 with h3; exact h3.symm
      rw [HM.out] at c0'
      have HS3 := hide (co_store hS2 HA.out (z := o) 1)
      clear hb1 HS1 CW c0 c1 c2 c3 c4 x2 x3 x5 x6 hS2 hA2
      go_wp2_with fail
      go_end0
      exact ⟨⟨_, rfl⟩, HS3.out⟩
  · have y1 : (y == 2) = false := by simp [hy2]
    rw [if_neg (fun h => hy2 h.1)]
    have HS2 := hide (HS1.out.sub (List.sublist_append_left [_] [_]))
    clear hy2
    go_enter Try.func284, Try.ntmps284
    go_wp2_with fail
    go_end0
    exact ⟨⟨_, rfl⟩, HS2.out⟩
def barOf (k : Nat) : BarK := if k = 1 then ⟨268, 283, barD⟩ else if k = 2 then ⟨269, 284, barS⟩ else ⟨270, 285, barY⟩
theorem barOf_ok (k : Nat) : (barOf k).Ok := by
  unfold barOf
  split
  · exact ⟨fun _ _ _ _ => shadeC_len _ _, fun w => by kernel_rfl, kenter_ofB Try.func283 (by kernel_rfl) rfl, fun Be bv s w o old v hP hn _ _ hv => fieldD_any Be bv s w o old v hP hn hv⟩
  · split
    · exact ⟨fun cols o old v => by unfold barS; dsimp only; split <;> simp, fun w => by kernel_rfl, kenter_ofB Try.func284 (by kernel_rfl) rfl, fun Be bv s w o old v hP hn ho _ hv => fieldS_any Be bv s w o old v hP hn ho hv⟩
    · exact ⟨fun _ _ _ _ => shadeC_len _ _, fun w => by kernel_rfl, kenter_ofB Try.func285 (by kernel_rfl) rfl, fun Be bv s w o old v hP hn _ hold _ => fieldY_any Be bv s w o old v hP hn hold⟩
end Go.Proofs.Ytjphckfbbiehdaa

namespace Go.Proofs.Ytjphckfbbiehdaa
open Go.RowKit

def CoS.put (s : CoS) (i k : Nat) (v : Val) (p : Po) : CoS := { s with oj := s.oj.put i k v p }
theorem co_gather {F : Nat → Prop} {W w : World} {Be : Nat} {bv : Value} {s : CoS} {L : List Item} (h : Sep F W w (coI Be bv s :: L)) :
    Sep F W w (allI (ojL s.oj) :: blkI Be 213 (coC bv s) :: rowI 3 1 s.Ac s.cols.length s.cc (ints s.cols) :: rowI 3 1 s.Ag s.gone.length s.cg (ints s.gone) :: L) := by
  have h1 : Sep F W w ([blkI Be 213 (coC bv s), rowI 3 1 s.Ac s.cols.length s.cc (ints s.cols), rowI 3 1 s.Ag s.gone.length s.cg (ints s.gone)] ++ ojL s.oj ++ L) := Sep.split h
  have h2 := h1.perm (l := ojL s.oj ++ ([blkI Be 213 (coC bv s), rowI 3 1 s.Ac s.cols.length s.cc (ints s.cols), rowI 3 1 s.Ag s.gone.length s.cg (ints s.gone)] ++ L)) (by
    rw [← List.append_assoc]
    exact List.Perm.append_right L List.perm_append_comm)
  exact h2.join
theorem co_ungather {F : Nat → Prop} {W w : World} {Be : Nat} {bv : Value} {s : CoS} {L : List Item} (h : Sep F W w (allI (ojL s.oj) :: blkI Be 213 (coC bv s) :: rowI 3 1 s.Ac s.cols.length s.cc (ints s.cols) :: rowI 3 1 s.Ag s.gone.length s.cg (ints s.gone) :: L)) : Sep F W w (coI Be bv s :: L) := by
  have h1 : Sep F W w (ojL s.oj ++ ([blkI Be 213 (coC bv s), rowI 3 1 s.Ac s.cols.length s.cc (ints s.cols), rowI 3 1 s.Ag s.gone.length s.cg (ints s.gone)] ++ L)) := Sep.split h
  have h2 := h1.perm (l := coR Be bv s ++ L) (by
    rw [← List.append_assoc]
    exact List.Perm.append_right L List.perm_append_comm)
  exact Sep.join (l := coR Be bv s) h2
theorem coC_put (bv : Value) (s : CoS) (i k : Nat) (v : Val) (p : Po) : coC bv (s.put i k v p) = coC bv s := by
  unfold coC CoS.put Oj.put Oj.v
  dsimp only
  rw [List.length_set]

theorem co_01 {Be : Nat} {bv : Value} {s : CoS} {w : World} (hP : (coI Be bv s).P w) : w.cell? ⟨Be, 0, none⟩ = some (.slice s.oj.As s.oj.ps.length s.oj.c) ∧ w.cell? ⟨Be, 1, none⟩ = some bv ∧ Be < w.heap.size := by
  have hS := (Sep.start hP).flat
  obtain ⟨b1, b2, b3, _⟩ := hS.rules 0 (g := Be) (t := 213) rfl
  exact ⟨(b1 0).trans rfl, (b1 1).trans rfl, b3⟩

set_option maxRecDepth 100000 in
set_option maxHeartbeats 8000000 in
theorem cput_any (b : BarK) (hb : b.Ok) {Be : Nat} {s : CoS} {w : World} (hP : (coI Be b.bv s).P w) (hl : s.cols.length = s.oj.ps.length) (hn : s.oj.ps.length ≤ 900) {i k : Nat} {p : Po} (v : Val) (hi : s.oj.ps[i]? = some (some p)) (hk : k < p.o.fields.length) (h4 : p.o.fields.length ≤ 4) (hvv : vin s.cols.length v) (hold : vin s.cols.length p.o.fields[k]) :
    Calls Try.prog 282 #[.pointer (some ⟨Be, 0, none⟩), .int .i64 i, .int .i64 k, .agg #[.bool v.1, .int .i64 v.2]] w fun e w' => (∃ u, e = .returned u) ∧ Sep (coI Be b.bv s).fp w w' [coI Be b.bv ((s.col (b.f s.cols i p.o.fields[k] v)).put i k v p)] := by
  obtain ⟨F, hF⟩ : ∃ F, (coI Be b.bv s).fp = F := ⟨_, rfl⟩
  obtain ⟨g, hg⟩ : ∃ g, w.heap.size = g := ⟨_, rfl⟩
  have hS0 := (Sep.start hP).blkAt 107 #[.bool v.1, .int .i64 v.2] hg
  rw [hF] at hS0 ⊢
  obtain ⟨W, hW⟩ : ∃ W, w.alloc (.cells #[.bool v.1, .int .i64 v.2] 107) = W := ⟨_, rfl⟩
  rw [hW] at hS0
  have hil := (List.getElem?_eq_some_iff.1 hi).1
  have hS1 := (Sep.start (hS0.get 0 rfl)).flat
  obtain ⟨b1, b2, b3, _⟩ := hS1.rules 0 (g := Be) (t := 213) rfl
  have b5 := (b1 0).trans (show _ = some (.slice s.oj.As s.oj.ps.length s.oj.c) from rfl)
  have b6 := (b1 1).trans (show _ = some (.iface b.T BarK.r) from rfl)
  obtain ⟨x1, x2, x3, _⟩ := hS0.rules 1 (g := g) (t := 107) rfl
  have x5 := (x1 0).trans (show _ = some (.bool v.1) from rfl)
  have x6 := (x1 1).trans (show _ = some (.int .i64 v.2) from rfl)
  have CG : Calls Try.prog 262 #[.slice s.oj.As s.oj.ps.length s.oj.c, .int .i64 i, .int .i64 k] W.drew fun e w' => e = .returned (.agg #[.bool p.o.fields[k].1, .int .i64 p.o.fields[k].2]) ∧ Below W.drew.heap.size W.drew w' := oget_any (pre := [_, _, _]) (show Sep _ _ W.drew ([blkI Be 213 (coC b.bv s), rowI 3 1 s.Ac s.cols.length s.cc (ints s.cols), rowI 3 1 s.Ag s.gone.length s.cg (ints s.gone)] ++ ojL s.oj) from hS1.drew) (by omega) hi hk h4
  have CB := hide (fun (X : World) (hX : (coI Be b.bv s).P X) => hb.c Be b.bv s X i p.o.fields[k] v hX (by omega) (by omega) hold hvv)
  have hm := hb.m
  have hent := hb.e
  have HLN := hide (hb.len s.cols i p.o.fields[k] v)
  obtain ⟨old, hold2⟩ : ∃ o, p.o.fields[k] = o := ⟨_, rfl⟩
  rw [hold2] at CG HLN ⊢
  simp only [hold2] at CB
  have HCG := hide CG
  obtain ⟨C2, hC2⟩ : ∃ c, b.f s.cols i old v = c := ⟨_, rfl⟩
  rw [hC2] at HLN ⊢
  simp only [hC2] at CB
  have CP := hide (fun (X : World) (hX : (allI (ojL s.oj)).P X) => oput_any hX (by omega) v hi hk h4)
  unfold Oj.v at CP
  obtain ⟨ov1, ov2⟩ := old
  obtain ⟨bv2, mv⟩ := v
  dsimp only at x5 x6 CB CP HCG hS0 hW ⊢
  obtain ⟨N, hN⟩ : ∃ n, s.oj.ps.length = n := ⟨_, rfl⟩
  rw [hN] at b5 HCG hl hn hil
  simp only [hN] at CP
  have HN := hide hN
  have HLL := hide hl
  obtain ⟨fB, hfB⟩ : ∃ f, b.fB = f := ⟨_, rfl⟩
  obtain ⟨bT, hbT⟩ : ∃ f, b.T = f := ⟨_, rfl⟩
  have hbv : b.bv = .iface bT BarK.r := by rw [← hbT]; rfl
  simp only [hfB, hbT] at hm hent b6 CB
  rw [hbv] at hS0 ⊢
  simp only [hbv] at CB
  have HS0 := hide hS0
  clear hS0 hS1 hP hF b1 x1 CG hold hvv hold2 hC2 hN hb hfB hbT hbv hi hk h4
  go_enter Try.func282, Try.ntmps282
  go_wp2_with fail
  go_region_held3 (fun w' => w'.cell? ⟨Be, 1, none⟩ = some (.iface bT (.agg #[])) ∧ w'.cell? ⟨Be, 0, none⟩ = some (.slice s.oj.As N s.oj.c) ∧ w'.cell? ⟨g, 0, none⟩ = some (.bool bv2) ∧ w'.cell? ⟨g, 1, none⟩ = some (.int .i64 mv)) (go_keep)
    (first
      | (go_at_call 262; (with_reducible refine HCG.out.mono ?_); rintro e w4 ⟨rfl, hb4⟩; have hS4 := HS0.out.drew.below hb4; obtain ⟨k0, k1, k2⟩ := co_01 (hS4.get 0 rfl); rw [HN.out] at k0; obtain ⟨y1, y2, y3, _⟩ := hS4.rules 1 (g := g) (t := 107) rfl; have y5 := (y1 0).trans (show _ = some (.bool bv2) from rfl); have y6 := (y1 1).trans (show _ = some (.int .i64 mv) from rfl); have CB4 := hide (CB.out w4 (hS4.get 0 rfl)); have HS4 := hide hS4; clear hb4 hS4 y1)
      | ((with_reducible refine CB4.out.mono ?_); rintro e w5 ⟨⟨u, rfl⟩, hP5⟩; have hS5 := HS4.out.call 0 rfl hP5; obtain ⟨k0, k1, k2⟩ := co_01 (hS5.get 0 rfl); replace k0 : w5.cell? ⟨Be, 0, none⟩ = some (.slice s.oj.As s.oj.ps.length s.oj.c) := k0; rw [HN.out] at k0; obtain ⟨y1, y2, y3, _⟩ := hS5.rules 1 (g := g) (t := 107) rfl; have y5 := (y1 0).trans (show _ = some (.bool bv2) from rfl); have y6 := (y1 1).trans (show _ = some (.int .i64 mv) from rfl); have HS5 := hide hS5; clear hP5 hS5 y1))
  all_goals
    have hg5 := co_gather HS5.out.drew
    have CP5 := hide (CP.out w5.drew (hg5.get 0 rfl))
    have HG5 := hide hg5
    clear hg5
    go_wp2_with fail
    go_region_held3 (fun w' => w'.cell? ⟨Be, 0, none⟩ = some (.slice s.oj.As N s.oj.c) ∧ w'.cell? ⟨g, 0, none⟩ = some (.bool bv2) ∧ w'.cell? ⟨g, 1, none⟩ = some (.int .i64 mv)) (go_keep)
      ((go_at_call 266; (with_reducible refine CP5.out.mono ?_); rintro e w6 ⟨⟨u, rfl⟩, hP6⟩; have hS6 := HG5.out.call 0 rfl hP6; obtain ⟨j1, _, j3, _⟩ := hS6.rules 1 (g := Be) (t := 213) rfl; have j5 : w6.cell? ⟨Be, 0, none⟩ = some (.slice s.oj.As s.oj.ps.length s.oj.c) := (j1 0).trans rfl; rw [HN.out] at j5; obtain ⟨y1, y2, y3, _⟩ := hS6.rules 4 (g := g) (t := 107) rfl; have y5 := (y1 0).trans (show _ = some (.bool bv2) from rfl); have y6 := (y1 1).trans (show _ = some (.int .i64 mv) from rfl); have HS6 := hide hS6; clear hP6 hS6 y1 j1))
    all_goals
      go_wp2_with fail
      go_end0
      refine ⟨⟨_, rfl⟩, ?_⟩
      have h6 := HS6.out
      rw [← coC_put (.iface bT BarK.r) (s.col C2) i k (bv2, mv) p] at h6
      exact (co_ungather (s := (s.col C2).put i k (bv2, mv) p) h6).sub (List.sublist_append_left [_] [_])
end Go.Proofs.Ytjphckfbbiehdaa
