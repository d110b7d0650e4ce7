/- A machine over a memory without end: a new object; a register becomes a value; what is wrong with a field. A machine over a memory without end: a register becomes a value; what is wrong with a field. A machine: what is wrong with what is to be done. -/
import Derived.Test.YtjphckfbbiehdaaGIdealPlays4
import Derived.Deep.OwnRows
set_option linter.unusedSimpArgs false
set_option linter.unusedVariables false
namespace Go.Proofs.Ytjphckfbbiehdaa
open Go.RowKit

theorem hrow_of_blk {w : World} {g t size n : Nat} {cs : Array Value} (h : Blk w g t cs) (hs : cs.size = n * size) (hm : n ≤ maxLen) : (rowI t size (some ⟨g, 0, none⟩) n n cs.toList).P w :=
  ⟨by rw [Array.length_toList, hs], .inr ⟨g, n, cs, rfl, Nat.zero_le _, h, Nat.le_refl _, hm, hs, by rw [List.take_of_length_le (by rw [Array.length_toList]; omega)]⟩⟩
def zeroVs (n : Nat) : List Val := List.replicate n (false, 0)
theorem hval_info : (Try.prog.info? 107).map (fun i => (i.zero, i.size, i.bytes)) = some (some (.agg #[.bool false, .int .i64 0]), 2, 16) := by kernel_rfl
theorem hmade (n : Nat) (hn : n ≤ 4) : madeCells #[.bool false, .int .i64 0] (n * 2) = (vals (zeroVs n)).toArray := by
  rcases (show n = 0 ∨ n = 1 ∨ n = 2 ∨ n = 3 ∨ n = 4 from by omega) with rfl | rfl | rfl | rfl | rfl <;> (apply Array.toList_inj.1; simp [madeCells, vals, zeroVs, List.range_succ, List.replicate])
theorem hval_make (n : Nat) (hn : n ≤ 4) : ∀ w : World, (Instr.makeSlice 25 (.int .i64 (n : Int)) (.int .i64 (n : Int))).run Try.prog w = .ok (.slice (some ⟨w.heap.size, 0, none⟩) n n) (w.alloc (.cells (vals (zeroVs n)).toArray 107)) := by
  intro w
  obtain ⟨i, hi, hz, hs, hb⟩ := info_parts hval_info
  have h := run_make w 25 107 i _ Try.underlying25 hi hz .i64 .i64 n n (by omega) (Int.le_refl _) (by rw [hb]; omega) (by omega)
  simp only [Int.toNat_natCast, hs] at h
  rw [show (Value.agg #[.bool false, .int .i64 0]).cells = #[.bool false, .int .i64 0] from rfl, hmade n hn] at h
  exact h
theorem sPtr : SliceT Try.prog 101 170 1 8 := SliceT.mk_ Try.underlying101 (z := .pointer none) (by kernel_rfl) rfl (by omega)
def Idl.new (s : Idl) (As : Option Addr) (c B g n : Nat) : Idl := { s with As := As, c := c, ps := s.ps ++ [⟨B, ⟨some ⟨g, 0, none⟩, n, n, zeroVs n⟩⟩] }

set_option maxRecDepth 100000 in
set_option maxHeartbeats 8000000 in
theorem new_any {Bm Be : Nat} {s : Idl} {w : World} (hP : (idI Bm Be s).P w) (hn : s.ps.length ≤ 1000) {n : Nat} (h4 : n ≤ 4) :
    Calls Try.prog 268 #[.pointer (some ⟨Be, 0, none⟩), .int .i64 n] w fun e w' => ∃ As' c' B g, e = .returned (.tuple #[.int .i64 s.ps.length, .int .i64 0]) ∧ Sep (idI Bm Be s).fp w w' [idI Bm Be (s.new As' c' B g n)] := by
  obtain ⟨F, hF⟩ : ∃ F, (idI Bm Be s).fp = F := ⟨_, rfl⟩
  have hS0 : Sep F w w (idL Bm Be s) := by rw [← hF]; exact (Sep.start hP).flat
  obtain ⟨g, hg⟩ : ∃ g, w.heap.size = g := ⟨_, rfl⟩
  have hS1 := hS0.blkAt 107 (vals (zeroVs n)).toArray (g := g) hg
  have hS2 : Sep F w ((w.alloc (.cells (vals (zeroVs n)).toArray 107)).alloc (.cells #[.slice (some ⟨g, 0, none⟩) n n] 119)) (blkI (g + 1) 119 #[.slice (some ⟨g, 0, none⟩) n n] :: rowI 107 2 (some ⟨g, 0, none⟩) n n (vals (zeroVs n)) :: idL Bm Be s) := by
    have h1 := hS1.perm (l := blkI g 107 (vals (zeroVs n)).toArray :: idL Bm Be s) List.perm_append_comm
    have hb : Blk (w.alloc (.cells (vals (zeroVs n)).toArray 107)) g 107 (vals (zeroVs n)).toArray := h1.get 0 rfl
    have hr := hrow_of_blk (n := n) (size := 2) hb (by have := vals_length (zeroVs n); simp [zeroVs] at this ⊢; omega) (by unfold maxLen; omega)
    have h2 := h1.step 0 rfl (Chg.refl _ _) (rowI 107 2 (some ⟨g, 0, none⟩) n n (vals (zeroVs n)).toArray.toList) hr (fun g' hg' => .inl (by
      have : g = g' := by simpa [rowI, Value.ownBlock] using hg'
      exact this.symm))
    exact (h2.blkAt 119 #[.slice (some ⟨g, 0, none⟩) n n] (g := g + 1) (by simp [hg])).perm List.perm_append_comm
  obtain ⟨c1, c2, c3, _⟩ := hS0.rules 1 (g := Be) (t := 185) rfl
  have c5 := (c1 0).trans (show _ = some (.slice s.As s.ps.length s.c) from rfl)
  have hmk := hval_make n h4
  rw [hF]
  obtain ⟨m, hm⟩ : ∃ m, s.ps.length = m := ⟨_, rfl⟩
  have HM := hide hm
  have hS3 : Sep F w ((w.alloc (.cells (vals (zeroVs n)).toArray 107)).alloc (.cells #[.slice (some ⟨g, 0, none⟩) n n] 119)) (blkI (g + 1) 119 #[.slice (some ⟨g, 0, none⟩) n n] :: rowI 107 2 (some ⟨g, 0, none⟩) n n (vals (zeroVs n)) :: blkI Bm 113 (mcCells s.regs (idF Be)) :: blkI Be 185 #[.slice s.As m s.c] :: rowI 170 1 s.As m s.c (s.ps.map fun p => .pointer (some ⟨p.B, 0, none⟩)) :: s.ps.map poI) := by rw [← hm]; exact hS2
  have HS3 := hide hS3
  rw [hm] at c5 hn ⊢
  have HFIN := hide (fun (X : World) (A' : Option Addr) (c' : Nat) (h : Sep F w X (blkI (g + 1) 119 #[.slice (some ⟨g, 0, none⟩) n n] :: rowI 107 2 (some ⟨g, 0, none⟩) n n (vals (zeroVs n)) :: blkI Bm 113 (mcCells s.regs (idF Be)) :: blkI Be 185 #[.slice A' (m + 1) c'] :: rowI 170 1 A' (m + 1) c' ((s.ps.map fun p => .pointer (some ⟨p.B, 0, none⟩)) ++ [.pointer (some ⟨g + 1, 0, none⟩)]) :: s.ps.map poI)) =>
    (show Sep F w X [idI Bm Be (s.new A' c' (g + 1) g n)] from by
      have h1 := (h.join (l := [_, _])).perm (l := blkI Bm 113 (mcCells s.regs (idF Be)) :: blkI Be 185 #[.slice A' (m + 1) c'] :: rowI 170 1 A' (m + 1) c' ((s.ps.map fun p => .pointer (some ⟨p.B, 0, none⟩)) ++ [.pointer (some ⟨g + 1, 0, none⟩)]) :: (s.ps.map poI ++ [poI ⟨g + 1, ⟨some ⟨g, 0, none⟩, n, n, zeroVs n⟩⟩])) (List.perm_append_singleton _ _).symm
      refine Sep.fold (l := idL Bm Be (s.new A' c' (g + 1) g n)) ?_
      unfold idL Idl.new
      dsimp only
      rw [List.length_append, List.length_singleton, HM.out, List.map_append, List.map_append]
      exact h1))
  have d1 : (w.alloc (.cells (vals (zeroVs n)).toArray 107)).cell? ⟨Be, 0, none⟩ = some (.slice s.As m s.c) := (World.cell?_alloc_lt w _ _ c3).trans c5
  have d2 : ((w.alloc (.cells (vals (zeroVs n)).toArray 107)).alloc (.cells #[.slice (some ⟨g, 0, none⟩) n n] 119)).cell? ⟨Be, 0, none⟩ = some (.slice s.As m s.c) := (World.cell?_alloc_lt _ _ _ (by simp; omega)).trans d1
  have d3 : (((w.alloc (.cells (vals (zeroVs n)).toArray 107)).alloc (.cells #[.slice (some ⟨g, 0, none⟩) n n] 119)).alloc (.cells #[.pointer (some ⟨g + 1, 0, none⟩)] 170)).cell? ⟨Be, 0, none⟩ = some (.slice s.As m s.c) := (World.cell?_alloc_lt _ _ _ (by simp; omega)).trans d2
  clear hS0 hS1 hS2 hS3 hP hm hF c1
  go_enter Try.func268, Try.ntmps268
  go_wp2_with fail
  go_region_law (first
    | (refine step_app1d (cs := #[.pointer (some ⟨g + 1, 0, none⟩)]) rfl (.tmp 9) (.tmp 14) 101 rfl (F := F) (W := w) sPtr (items := _ :: _ :: _ :: _ :: _ :: _) HS3.out 4 (n := m) rfl rfl rfl (by simp [hg]) rfl rfl (by omega) ?_
       intro A7 c7 w7 hS7 hC7
       obtain ⟨z1, z2, z3, z4⟩ := hS7.rules 3 (g := Be) (t := 185) rfl
       (have z5 := (z1 0).trans (show _ = some (.slice s.As m s.c) from rfl))
       clear z1 z4))
  all_goals
    have HX := hide (HFIN.out _ _ _ (hS7.set_ 3 (g := Be) (t := 185) rfl 0 (.slice A7 (m + 1) c7)))
    have q1 : (w7.setCell ⟨Be, 0, none⟩ (.slice A7 (m + 1) c7)).cell? ⟨Be, 0, none⟩ = some (.slice A7 (m + 1) c7) := ((hS7.set_ 3 (g := Be) (t := 185) rfl 0 (.slice A7 (m + 1) c7)).rules 3 (g := Be) (t := 185) rfl).1 0
    clear hS7 hC7
    go_wp2_with fail
    refine bodyPost_ret (v := .tuple #[.int .i64 m, .int .i64 0]) (by simp [results, Try.results268, go_sem]) rfl ⟨A7, c7, g + 1, g, rfl, HX.out⟩
end Go.Proofs.Ytjphckfbbiehdaa

namespace Go.Proofs.Ytjphckfbbiehdaa
open Go.RowKit

def Idl.set (s : Idl) (r : Nat) (v : Val) : Idl := { s with regs := s.regs.set r v }
set_option maxRecDepth 100000 in
set_option maxHeartbeats 8000000 in
theorem mset_any {Bm Be : Nat} {s : Idl} {w : World} (hP : (idI Bm Be s).P w) (hl : s.regs.length = 8) {r : Nat} (v : Val) (hr : r < 8) :
    Calls Try.prog 108 #[.pointer (some ⟨Bm, 0, none⟩), .int .i64 r, .agg #[.bool v.1, .int .i64 v.2]] w fun e w' => (∃ u, e = .returned u) ∧ Sep (idI Bm Be s).fp w w' [idI Bm Be (s.set r v)] := by
  obtain ⟨F, hF⟩ : ∃ F, (idI Bm Be s).fp = F := ⟨_, rfl⟩
  obtain ⟨g, hg⟩ : ∃ g, w.heap.size = g := ⟨_, rfl⟩
  have hS0 : Sep F w (w.alloc (.cells #[.bool v.1, .int .i64 v.2] 107)) (blkI g 107 #[.bool v.1, .int .i64 v.2] :: idL Bm Be s) := by
    rw [← hF]
    exact ((Sep.start hP).flat.blkAt 107 #[.bool v.1, .int .i64 v.2] (g := g) hg).perm List.perm_append_comm
  rw [hF]
  have hrl : r < s.regs.length := by omega
  obtain ⟨m1, m2⟩ := mc_reg (f := idF Be) hrl
  obtain ⟨y0, hy0⟩ : ∃ y, s.regs[r].1 = y := ⟨_, rfl⟩
  obtain ⟨y1, hy1⟩ : ∃ y, s.regs[r].2 = y := ⟨_, rfl⟩
  rw [hy0] at m1
  rw [hy1] at m2
  obtain ⟨c1, c2, c3, _⟩ := hS0.rules 1 (g := Bm) (t := 113) rfl
  have c5 := (c1 16).trans (mc_if hl)
  obtain ⟨x1, x2, x3, _⟩ := hS0.rules 0 (g := g) (t := 107) rfl
  have x5 := (x1 0).trans (show _ = some (.bool v.1) from rfl)
  have x6 := (x1 1).trans (show _ = some (.int .i64 v.2) from rfl)
  have hne1 : g ≠ Bm := fun e => hS0.other (a := 0) (b := 1) rfl rfl (by omega) g rfl (show g = Bm from e)
  have hne2 : Bm ≠ g := fun e => hne1 e.symm
  have HST := hide (fun (X : World) (h : Sep F w X (blkI g 107 #[.bool v.1, .int .i64 v.2] :: idL Bm Be s)) =>
    (show Sep F w ((X.setCell ⟨Bm, r * 2, none⟩ (.bool v.1)).setCell ⟨Bm, r * 2 + 1, none⟩ (.int .i64 v.2)) [idI Bm Be (s.set r v)] from by
      have h2 := ((h.set_ 1 (g := Bm) (t := 113) rfl (r * 2) (.bool v.1)).set_ 1 (g := Bm) (t := 113) rfl (r * 2 + 1) (.int .i64 v.2))
      rw [mc_set hrl v] at h2
      exact (h2.sub (l := idL Bm Be (s.set r v)) (.cons _ (List.Sublist.refl _))).fold))
  have HRU := hide (fun (X : World) (h : Sep F w X (blkI g 107 #[.bool v.1, .int .i64 v.2] :: idL Bm Be s)) =>
    (⟨((h.rules 0 (g := g) (t := 107) rfl).1 0).trans rfl, ((h.rules 0 (g := g) (t := 107) rfl).1 1).trans rfl, ((h.rules 1 (g := Bm) (t := 113) rfl).1 _).trans m1, ((h.rules 1 (g := Bm) (t := 113) rfl).1 _).trans m2, (h.rules 1 (g := Bm) (t := 113) rfl).2.1 (r * 2), (h.rules 1 (g := Bm) (t := 113) rfl).2.1 (r * 2 + 1), (h.rules 1 (g := Bm) (t := 113) rfl).2.2.1, ((h.rules 1 (g := Bm) (t := 113) rfl).1 16).trans (mc_if hl)⟩ :
      X.cell? ⟨g, 0, none⟩ = some (.bool v.1) ∧ X.cell? ⟨g, 1, none⟩ = some (.int .i64 v.2) ∧ X.cell? ⟨Bm, r * 2, none⟩ = some (.bool y0) ∧ X.cell? ⟨Bm, r * 2 + 1, none⟩ = some (.int .i64 y1) ∧ X.frozen? ⟨Bm, r * 2, none⟩ = false ∧ X.frozen? ⟨Bm, r * 2 + 1, none⟩ = false ∧ Bm < X.heap.size ∧ X.cell? ⟨Bm, 16, none⟩ = some (idF Be)))
  have HS0 := hide hS0
  have hinv := meth_hold
  obtain ⟨W, hW⟩ : ∃ W, w.alloc (.cells #[.bool v.1, .int .i64 v.2] 107) = W := ⟨_, rfl⟩
  rw [hW] at HS0 c5 x5 x6
  have HW := hide hW
  have HGG := hide hg
  have hr2 : r < 8 := hr
  have hr5 : (0 : Int) ≤ (r : Int) := by omega
  have hr6 : (r : Int) < 8 := by omega
  have hr7 : decide ((r : Int) < 0) = false := by simp
  have hr8 : decide ((8 : Int) ≤ (r : Int)) = false := by simp; omega
  obtain ⟨bv, mv⟩ := v
  dsimp only at x5 x6 HST HRU HW HS0 ⊢
  clear hS0 hP hF hW hg c1 c2 c3 x1 x2 x3 m1 m2 hy0 hy1 hrl
  go_enter Try.func108, Try.ntmps108
  go_wp2_with fail
  rw [HW.out, HGG.out]
  have CH := hide (hold_any W.drew (.pointer (some ⟨Be, 0, none⟩)) r (bv, mv))
  dsimp only at CH
  go_region_held3 (fun w' => w'.cell? ⟨Bm, 16, none⟩ = some (idF Be) ∧ w'.cell? ⟨g, 0, none⟩ = some (.bool bv) ∧ w'.cell? ⟨g, 1, none⟩ = some (.int .i64 mv)) (go_keep)
    ((go_at_call 272; (with_reducible refine CH.out.mono ?_); rintro e w5 ⟨⟨u, rfl⟩, hb5⟩; have hS5 := HS0.out.drew.below hb5; obtain ⟨k1, k2, k3, k4, k5, k6, k7, k8⟩ := HRU.out _ hS5; have HS5 := hide hS5; clear hb5 hS5))
  all_goals
    go_wp2_with fail
    go_region_held3 (fun w' => w'.cell? ⟨g, 0, none⟩ = some (.bool bv) ∧ w'.cell? ⟨g, 1, none⟩ = some (.int .i64 mv)) (go_keep) (fail)
    all_goals
      go_end0
      exact ⟨⟨_, rfl⟩, HST.out _ HS5.out.drew⟩

set_option maxRecDepth 100000 in
set_option maxHeartbeats 8000000 in
theorem mfield_any {Bm Be : Nat} {s : Idl} {F : Nat → Prop} {W w : World} {pre : List Item} (h : Sep F W w (pre ++ idL Bm Be s)) (hl : s.regs.length = 8) (hn : s.ps.length ≤ 1000) (v : Val) (at_ : Int) (hv : v.1 = true → 0 ≤ v.2 ∧ v.2 < (s.ps.length : Int)) :
    Calls Try.prog 109 #[.pointer (some ⟨Bm, 0, none⟩), .agg #[.bool v.1, .int .i64 v.2], .int .i64 at_] w fun e w' => e = .returned (.int .i64 (if v.1 = false then 5 else if at_ < 0 ∨ ((s.ps.map fun p => (p.o.n : Int)).getD v.2.toNat 0) ≤ at_ then 3 else 0)) ∧ Below w.heap.size w w' := by
  have hB0 : Below w.heap.size w (w.alloc (.cells #[.bool v.1, .int .i64 v.2] 107)) := (Below.refl _ w).alloc (Nat.le_refl _) _
  have hS1 := h.below hB0
  have hb1 : (blkI Bm 113 (mcCells s.regs (idF Be))).P (w.alloc (.cells #[.bool v.1, .int .i64 v.2] 107)) := hS1.all _ (by unfold idL; simp)
  have hb2 : (blkI Be 185 #[.slice s.As s.ps.length s.c]).P (w.alloc (.cells #[.bool v.1, .int .i64 v.2] 107)) := hS1.all _ (by unfold idL; simp)
  have c5 := ((show Blk _ _ _ _ from hb1).rules.1 16).trans (mc_if hl)
  have c6 := ((show Blk _ _ _ _ from hb2).rules.1 0).trans (show _ = some (.slice s.As s.ps.length s.c) from rfl)
  obtain ⟨bv, m⟩ := v
  dsimp only at hv ⊢
  have HB0 := hide hB0
  cases bv with
  | false =>
    rw [if_pos rfl]
    clear hB0 hS1 hb1 hb2 h
    go_enter Try.func109, Try.ntmps109
    go_wp2_with fail
    go_ret
    exact ⟨rfl, HB0.out⟩
  | true =>
    rw [if_neg (by simp)]
    obtain ⟨m0, m1⟩ := hv rfl
    obtain ⟨z, rfl⟩ := int_nat m0
    have hz : z < s.ps.length := by omega
    have hgd : ((s.ps.map fun p => (p.o.n : Int)).getD ((z : Int)).toNat 0) = (s.ps[z].o.n : Int) := by
      rw [show ((z : Int)).toNat = z from by omega, List.getD_eq_getElem?_getD]
      simp [List.getElem?_eq_getElem hz]
    rw [hgd]
    have CL := fun k => len_any (hS1.drewN k) hn hz
    have hme : ∀ k, (method 455 183 (.pointer (some ⟨Be, 0, none⟩)) "Len").run Try.prog ((w.alloc (.cells #[.bool true, .int .i64 z] 107)).drewN k) = .ok (264, .slice s.As s.ps.length s.c) ((w.alloc (.cells #[.bool true, .int .i64 z] 107)).drewN k) := fun k => meth_len Be _ _ c6
    obtain ⟨q, hq⟩ : ∃ q, s.ps[z].o.n = q := ⟨_, rfl⟩
    simp only [hq] at CL
    rw [hq]
    replace CL := hide (fun k => Calls.quiet_of_same (v := .int .i64 q) (CL k))
    clear hgd hB0 hS1 hb1 hb2 h m0 m1 hq hv
    by_cases h0 : at_ < 0
    · have t1 : decide (at_ < 0) = true := by simp [h0]
      rw [if_pos (.inl h0)]
      go_enter Try.func109, Try.ntmps109
      go_wp2_with fail
      go_quiet (fail)
      go_wp2_with fail
      go_ret
      exact ⟨rfl, below_drewN HB0.out _⟩
    · have t1 : decide (at_ < 0) = false := by simp only [h0, decide_false]
      by_cases h1 : (q : Int) ≤ at_
      · have t2 : decide ((q : Int) ≤ at_) = true := by simp [h1]
        rw [if_pos (.inr h1)]
        go_enter Try.func109, Try.ntmps109
        go_wp2_with fail
        go_quiet ((go_at_call 264; with_reducible exact CL.out _))
        go_wp2_with fail
        go_ret
        exact ⟨rfl, below_drewN HB0.out _⟩
      · have t2 : decide ((q : Int) ≤ at_) = false := by simp only [h1, decide_false]
        rw [if_neg (fun h => h.elim h0 h1)]
        go_enter Try.func109, Try.ntmps109
        go_wp2_with fail
        go_quiet ((go_at_call 264; with_reducible exact CL.out _))
        go_wp2_with fail
        go_ret
        exact ⟨rfl, below_drewN HB0.out _⟩
end Go.Proofs.Ytjphckfbbiehdaa

namespace Go.Proofs.Ytjphckfbbiehdaa
open Go.RowKit

structure DoV where
  k : Int
  to : Int
  fr : Int
  at_ : Int
  n : Int
def DoV.cells (d : DoV) : Array Value := #[.int .i64 d.k, .int .i64 d.to, .int .i64 d.fr, .int .i64 d.at_, .int .i64 d.n]
def badR (x : Int) : Bool := decide (x < 0) || decide (8 ≤ x)
def wrongM (d : DoV) : Int := if d.k < 1 ∨ 7 < d.k then 5 else if (d.k ≠ 7 ∧ badR d.to = true) ∨ (d.k ≠ 1 ∧ d.k ≠ 2 ∧ badR d.fr = true) then 2 else if d.k = 1 ∧ (d.n < 0 ∨ 4 < d.n) then 3 else if d.k = 2 ∧ (d.n < -4611686018427387904 ∨ 4611686018427387903 < d.n) then 3 else 0
theorem badR_no {x : Int} (h : badR x = false) : 0 ≤ x ∧ x < 8 := by
  unfold badR at h
  simp at h
  omega

set_option maxHeartbeats 400000 in
theorem thereBad_any (w : World) (x : Int) : Calls Try.prog 195 #[.int .i64 x] w fun e w' => e = .returned (.bool (badR x)) ∧ w' = w := by
  unfold badR
  by_cases h1 : x < 0
  · have t1 : decide (x < 0) = true := by simp [h1]
    clear h1
    go_enter Try.func195, Try.ntmps195
    go_wp2_with fail
    go_ret
    exact ⟨ret_bool (by rw [t1]; rfl), rfl⟩
  · have t1 : decide (x < 0) = false := by simp only [h1, decide_false]
    clear h1
    go_enter Try.func195, Try.ntmps195
    go_wp2_with fail
    go_ret
    exact ⟨ret_bool (by rw [t1]; rfl), rfl⟩
set_option maxHeartbeats 800000 in
theorem thereIndex_any (w : World) (A : Option Addr) (n c : Nat) (l : List Int) (hn : n ≤ 1000) (h : Rd w (fun _ => True) 1 A n (ints l)) :
    Calls Try.prog 221 #[.slice A n c, .func (.func 195) #[] #[]] w fun e w' => (∃ r : Int, e = .returned (.int .i64 r) ∧ (0 ≤ r ↔ ∃ x ∈ l, badR x = true)) ∧ w' = w := by
  have HL := hide (show l.length = n by have := h.1; simpa using this)
  go_enter Try.func221, Try.ntmps221
  go_wp2_with fail
  go_loop [5, 8] (fun _ i => ∃ k : Nat, k ≤ n ∧ i = .int .i64 k ∧ Hid (∀ t ∈ l.take k, badR t = false)) (fun _ i => n - (intOf i).toNat)
  case atStart => exact ⟨0, by omega, rfl, by simp [Hid]⟩
  case round =>
    obtain ⟨k, hk, rfl, hnot⟩ := hrel
    by_cases hlt : k < n
    · obtain ⟨ad, rfl, _, _, hc⟩ := h.at_ hlt
      have hkl : k < l.length := by rw [HL.out]; exact hlt
      have hcell := hc _ (by simp [ints, List.getElem?_eq_getElem hkl] : (ints l)[k]? = some (.int .i64 l[k]))
      have HM := hide (List.getElem_mem hkl)
      have HT := hide (List.take_succ_eq_append_getElem hkl)
      obtain ⟨x, hx⟩ : ∃ x, l[k] = x := ⟨_, rfl⟩
      rw [hx] at hcell HM HT
      clear hc hx
      go_wp2_with fail
      refine (thereBad_any _ x).mono ?_
      rintro e w1 ⟨rfl, rfl⟩
      cases hq : badR x with
      | true =>
        have HQ := hide hq
        clear hq
        go_wp2_with fail
        go_ret
        exact ⟨⟨k, rfl, ⟨fun _ => ⟨x, HM.out, HQ.out⟩, fun _ => by omega⟩⟩, rfl⟩
      | false =>
        have HQ := hide hq
        clear hq
        go_wp2_with fail
        go_round
        case rel => exact ⟨k + 1, by omega, by go_num, by
          have h1 := hnot.out
          have h2 := HQ.out
          show ∀ t ∈ l.take (k + 1), badR t = false
          rw [HT.out]
          intro t ht
          rcases List.mem_append.1 ht with h3 | h3
          · exact h1 t h3
          · simp only [List.mem_singleton] at h3; subst h3; exact h2⟩
        case measure => simp [intOf]; omega
    · go_wp2_with fail
      go_ret
      have h1 := hnot.out
      rw [List.take_of_length_le (by rw [HL.out]; omega)] at h1
      exact ⟨⟨-1, rfl, ⟨fun h => by omega, fun ⟨t, ht, htx⟩ => by rw [h1 t ht] at htx; cases htx⟩⟩, rfl⟩
theorem thereContains_any (w : World) (A : Option Addr) (n c : Nat) (l : List Int) (hn : n ≤ 1000) (h : Rd w (fun _ => True) 1 A n (ints l)) :
    Calls Try.prog 194 #[.slice A n c, .func (.func 195) #[] #[]] w fun e w' => e = .returned (.bool (l.any badR)) ∧ w' = w := by
  go_enter Try.func194, Try.ntmps194
  go_wp2_with fail
  refine (thereIndex_any w A n c l hn h).mono ?_
  rintro e w1 ⟨⟨r, rfl, hr⟩, rfl⟩
  have HB := hide (show l.any badR = decide (0 ≤ r) by
    rw [Bool.eq_iff_iff]; simp only [List.any_eq_true, decide_eq_true_eq]; exact hr.symm)
  clear hr
  go_wp2_with fail
  go_ret
  exact ⟨ret_bool HB.out.symm, rfl⟩
theorem there_any (w : World) (g : Nat) (x : Int) (b : Bool) (hx : badR x = b) (h : Blk w g 3 #[.int .i64 x]) :
    Calls Try.prog 162 #[.slice (some ⟨g, 0, none⟩) 1 1] w fun e w' => e = .returned (.bool (!b)) ∧ w' = w := by
  have hR : Rd w (fun _ => True) 1 (some ⟨g, 0, none⟩) 1 (ints [x]) := ⟨rfl, fun _ => ⟨_, rfl, trivial, Blk.lt h, fun j u hu => by
    cases j with
    | zero => simp [ints] at hu; subst hu; rw [show (⟨g, 0, none⟩ : Addr).add 0 = ⟨g, 0, none⟩ from rfl]; exact (h.cell 0).trans rfl
    | succ j => simp [ints] at hu⟩⟩
  have C := thereContains_any w (some ⟨g, 0, none⟩) 1 1 [x] (by omega) hR
  rw [show ([x] : List Int).any badR = b from by simp [hx]] at C
  have HC := hide C
  clear C hR hx
  go_enter Try.func162, Try.ntmps162
  go_wp2_with fail
  refine HC.out.mono ?_
  rintro e w1 ⟨rfl, rfl⟩
  cases b with
  | true =>
    go_wp2_with fail
    go_ret
    exact ⟨rfl, rfl⟩
  | false =>
    go_wp2_with fail
    go_ret
    exact ⟨rfl, rfl⟩
theorem known_any (w : World) (d : DoV) : Calls Try.prog 161 #[.agg d.cells] w fun e w' => e = .returned (.bool (decide (1 ≤ d.k) && decide (d.k ≤ 7))) ∧ Below w.heap.size w w' := by
  unfold DoV.cells
  obtain ⟨k, to, fr, at_, n⟩ := d
  dsimp only
  have HB := hide (show Below w.heap.size w (w.alloc (.cells #[.int .i64 k, .int .i64 to, .int .i64 fr, .int .i64 at_, .int .i64 n] 39)) from (Below.refl _ w).alloc (Nat.le_refl _) _)
  by_cases h1 : 1 ≤ k
  · have t1 : decide (1 ≤ k) = true := by simp [h1]
    clear h1
    go_enter Try.func161, Try.ntmps161
    go_wp2_with fail
    go_ret
    exact ⟨ret_bool (by rw [t1]; rfl), HB.out⟩
  · have t1 : decide (1 ≤ k) = false := by simp only [h1, decide_false]
    clear h1
    go_enter Try.func161, Try.ntmps161
    go_wp2_with fail
    go_ret
    exact ⟨ret_bool (by rw [t1]; rfl), HB.out⟩

section
variable (w : World) (to fr at_ n : Int)
set_option maxRecDepth 100000 in
set_option maxHeartbeats 4000000 in
theorem wrong_lo (k : Int) (h : k < 1) : Calls Try.prog 107 #[.agg #[.int .i64 k, .int .i64 to, .int .i64 fr, .int .i64 at_, .int .i64 n]] w fun e w' => e = .returned (.int .i64 5) ∧ Below w.heap.size w w' := by
  have hb0 : Below w.heap.size w (w.alloc (.cells #[.int .i64 k, .int .i64 to, .int .i64 fr, .int .i64 at_, .int .i64 n] 39)) := (Below.refl _ w).alloc (Nat.le_refl _) _
  have BX := hide (Blk.new w 39 #[.int .i64 k, .int .i64 to, .int .i64 fr, .int .i64 at_, .int .i64 n])
  have CK := known_any (w.alloc (.cells #[.int .i64 k, .int .i64 to, .int .i64 fr, .int .i64 at_, .int .i64 n] 39)) ⟨k, to, fr, at_, n⟩
  unfold DoV.cells at CK
  dsimp only at CK
  rw [show (decide (1 ≤ k) && decide (k ≤ 7)) = false from by simp; omega] at CK
  have k1 : (k == 1) = false := by rw [beq_eq_false_iff_ne]; omega
  have k2 : (k == 2) = false := by rw [beq_eq_false_iff_ne]; omega
  clear h
  have HCK := hide CK
  have HB0 := hide hb0
  clear CK hb0
  go_enter Try.func107, Try.ntmps107
  go_wp2_with fail
  refine HCK.out.mono ?_
  rintro e w1 ⟨rfl, hb1⟩
  obtain ⟨c1, c2, c3⟩ := (BX.out.below_ hb1).rules
  have c4 := (c1 0).trans (show _ = some (.int .i64 k) from rfl)
  have c5 := (c1 1).trans (show _ = some (.int .i64 to) from rfl)
  have c6 := (c1 2).trans (show _ = some (.int .i64 fr) from rfl)
  have c7 := (c1 4).trans (show _ = some (.int .i64 n) from rfl)
  have HB1 := hide (HB0.out.trans (hb1.mono HB0.out.size))
  have BX1 := hide (BX.out.below_ hb1)
  clear hb1 HB0 HCK BX c1
  go_wp2_with fail
  go_ret
  exact ⟨rfl, HB1.out⟩
set_option maxRecDepth 100000 in
set_option maxHeartbeats 4000000 in
theorem wrong_hi (k : Int) (h : 7 < k) : Calls Try.prog 107 #[.agg #[.int .i64 k, .int .i64 to, .int .i64 fr, .int .i64 at_, .int .i64 n]] w fun e w' => e = .returned (.int .i64 5) ∧ Below w.heap.size w w' := by
  have hb0 : Below w.heap.size w (w.alloc (.cells #[.int .i64 k, .int .i64 to, .int .i64 fr, .int .i64 at_, .int .i64 n] 39)) := (Below.refl _ w).alloc (Nat.le_refl _) _
  have BX := hide (Blk.new w 39 #[.int .i64 k, .int .i64 to, .int .i64 fr, .int .i64 at_, .int .i64 n])
  have CK := known_any (w.alloc (.cells #[.int .i64 k, .int .i64 to, .int .i64 fr, .int .i64 at_, .int .i64 n] 39)) ⟨k, to, fr, at_, n⟩
  unfold DoV.cells at CK
  dsimp only at CK
  rw [show (decide (1 ≤ k) && decide (k ≤ 7)) = false from by simp; omega] at CK
  have k1 : (k == 1) = false := by rw [beq_eq_false_iff_ne]; omega
  have k2 : (k == 2) = false := by rw [beq_eq_false_iff_ne]; omega
  clear h
  have HCK := hide CK
  have HB0 := hide hb0
  clear CK hb0
  go_enter Try.func107, Try.ntmps107
  go_wp2_with fail
  refine HCK.out.mono ?_
  rintro e w1 ⟨rfl, hb1⟩
  obtain ⟨c1, c2, c3⟩ := (BX.out.below_ hb1).rules
  have c4 := (c1 0).trans (show _ = some (.int .i64 k) from rfl)
  have c5 := (c1 1).trans (show _ = some (.int .i64 to) from rfl)
  have c6 := (c1 2).trans (show _ = some (.int .i64 fr) from rfl)
  have c7 := (c1 4).trans (show _ = some (.int .i64 n) from rfl)
  have HB1 := hide (HB0.out.trans (hb1.mono HB0.out.size))
  have BX1 := hide (BX.out.below_ hb1)
  clear hb1 HB0 HCK BX c1
  go_wp2_with fail
  go_ret
  exact ⟨rfl, HB1.out⟩
set_option maxRecDepth 100000 in
set_option maxHeartbeats 4000000 in
theorem wrong_1_to (ht : badR to = true) : Calls Try.prog 107 #[.agg #[.int .i64 1, .int .i64 to, .int .i64 fr, .int .i64 at_, .int .i64 n]] w fun e w' => e = .returned (.int .i64 2) ∧ Below w.heap.size w w' := by
  have hb0 : Below w.heap.size w (w.alloc (.cells #[.int .i64 1, .int .i64 to, .int .i64 fr, .int .i64 at_, .int .i64 n] 39)) := (Below.refl _ w).alloc (Nat.le_refl _) _
  have BX := hide (Blk.new w 39 #[.int .i64 1, .int .i64 to, .int .i64 fr, .int .i64 at_, .int .i64 n])
  have CK := known_any (w.alloc (.cells #[.int .i64 1, .int .i64 to, .int .i64 fr, .int .i64 at_, .int .i64 n] 39)) ⟨1, to, fr, at_, n⟩
  unfold DoV.cells at CK
  dsimp only at CK
  rw [show (decide ((1 : Int) ≤ 1) && decide ((1 : Int) ≤ 7)) = true from rfl] at CK
  have HCK := hide CK
  have HB0 := hide hb0
  clear CK hb0
  go_enter Try.func107, Try.ntmps107
  go_wp2_with fail
  refine HCK.out.mono ?_
  rintro e w1 ⟨rfl, hb1⟩
  obtain ⟨c1, c2, c3⟩ := (BX.out.below_ hb1).rules
  have c4 := (c1 0).trans (show _ = some (.int .i64 1) from rfl)
  have c5 := (c1 1).trans (show _ = some (.int .i64 to) from rfl)
  have c6 := (c1 2).trans (show _ = some (.int .i64 fr) from rfl)
  have c7 := (c1 4).trans (show _ = some (.int .i64 n) from rfl)
  have HB1 := hide (HB0.out.trans (hb1.mono HB0.out.size))
  have BX1 := hide (BX.out.below_ hb1)
  clear hb1 HB0 HCK BX c1
  have CT2 := hide (there_any (w1.alloc (.cells #[.int .i64 to] 3)) w1.heap.size to true ht (Blk.new w1 3 #[.int .i64 to]))
  clear ht
  go_wp2_with fail
  refine CT2.out.mono ?_
  rintro e w2 ⟨rfl, rfl⟩
  have hb2 : Below w1.heap.size w1 (w1.alloc (.cells #[.int .i64 to] 3)) := (Below.refl _ _).alloc (Nat.le_refl _) _
  have HB2 := hide (HB1.out.trans (hb2.mono HB1.out.size))
  have BX2 := hide (BX1.out.below_ hb2)
  obtain ⟨W2, hW2⟩ : ∃ X, w1.alloc (.cells #[.int .i64 to] 3) = X := ⟨_, rfl⟩
  rw [hW2] at HB2 BX2 ⊢
  obtain ⟨c1, c2, c3⟩ := BX2.out.rules
  have c4 := (c1 0).trans (show _ = some (.int .i64 1) from rfl)
  have c5 := (c1 1).trans (show _ = some (.int .i64 to) from rfl)
  have c6 := (c1 2).trans (show _ = some (.int .i64 fr) from rfl)
  have c7 := (c1 4).trans (show _ = some (.int .i64 n) from rfl)
  clear hb2 HB1 BX1 CT2 hW2 c1
  go_wp2_with fail
  go_ret
  exact ⟨rfl, HB2.out⟩
set_option maxRecDepth 100000 in
set_option maxHeartbeats 4000000 in
theorem wrong_1_lo (ht : badR to = false) (h : n < 0) : Calls Try.prog 107 #[.agg #[.int .i64 1, .int .i64 to, .int .i64 fr, .int .i64 at_, .int .i64 n]] w fun e w' => e = .returned (.int .i64 3) ∧ Below w.heap.size w w' := by
  have hb0 : Below w.heap.size w (w.alloc (.cells #[.int .i64 1, .int .i64 to, .int .i64 fr, .int .i64 at_, .int .i64 n] 39)) := (Below.refl _ w).alloc (Nat.le_refl _) _
  have BX := hide (Blk.new w 39 #[.int .i64 1, .int .i64 to, .int .i64 fr, .int .i64 at_, .int .i64 n])
  have CK := known_any (w.alloc (.cells #[.int .i64 1, .int .i64 to, .int .i64 fr, .int .i64 at_, .int .i64 n] 39)) ⟨1, to, fr, at_, n⟩
  unfold DoV.cells at CK
  dsimp only at CK
  rw [show (decide ((1 : Int) ≤ 1) && decide ((1 : Int) ≤ 7)) = true from rfl] at CK
  have t1 : decide (n < 0) = true := by simp; omega
  clear h
  have HCK := hide CK
  have HB0 := hide hb0
  clear CK hb0
  go_enter Try.func107, Try.ntmps107
  go_wp2_with fail
  refine HCK.out.mono ?_
  rintro e w1 ⟨rfl, hb1⟩
  obtain ⟨c1, c2, c3⟩ := (BX.out.below_ hb1).rules
  have c4 := (c1 0).trans (show _ = some (.int .i64 1) from rfl)
  have c5 := (c1 1).trans (show _ = some (.int .i64 to) from rfl)
  have c6 := (c1 2).trans (show _ = some (.int .i64 fr) from rfl)
  have c7 := (c1 4).trans (show _ = some (.int .i64 n) from rfl)
  have HB1 := hide (HB0.out.trans (hb1.mono HB0.out.size))
  have BX1 := hide (BX.out.below_ hb1)
  clear hb1 HB0 HCK BX c1
  have CT2 := hide (there_any (w1.alloc (.cells #[.int .i64 to] 3)) w1.heap.size to false ht (Blk.new w1 3 #[.int .i64 to]))
  clear ht
  go_wp2_with fail
  refine CT2.out.mono ?_
  rintro e w2 ⟨rfl, rfl⟩
  have hb2 : Below w1.heap.size w1 (w1.alloc (.cells #[.int .i64 to] 3)) := (Below.refl _ _).alloc (Nat.le_refl _) _
  have HB2 := hide (HB1.out.trans (hb2.mono HB1.out.size))
  have BX2 := hide (BX1.out.below_ hb2)
  obtain ⟨W2, hW2⟩ : ∃ X, w1.alloc (.cells #[.int .i64 to] 3) = X := ⟨_, rfl⟩
  rw [hW2] at HB2 BX2 ⊢
  obtain ⟨c1, c2, c3⟩ := BX2.out.rules
  have c4 := (c1 0).trans (show _ = some (.int .i64 1) from rfl)
  have c5 := (c1 1).trans (show _ = some (.int .i64 to) from rfl)
  have c6 := (c1 2).trans (show _ = some (.int .i64 fr) from rfl)
  have c7 := (c1 4).trans (show _ = some (.int .i64 n) from rfl)
  clear hb2 HB1 BX1 CT2 hW2 c1
  go_wp2_with fail
  go_ret
  exact ⟨rfl, HB2.out⟩
set_option maxRecDepth 100000 in
set_option maxHeartbeats 4000000 in
theorem wrong_1_hi (ht : badR to = false) (h : 4 < n) : Calls Try.prog 107 #[.agg #[.int .i64 1, .int .i64 to, .int .i64 fr, .int .i64 at_, .int .i64 n]] w fun e w' => e = .returned (.int .i64 3) ∧ Below w.heap.size w w' := by
  have hb0 : Below w.heap.size w (w.alloc (.cells #[.int .i64 1, .int .i64 to, .int .i64 fr, .int .i64 at_, .int .i64 n] 39)) := (Below.refl _ w).alloc (Nat.le_refl _) _
  have BX := hide (Blk.new w 39 #[.int .i64 1, .int .i64 to, .int .i64 fr, .int .i64 at_, .int .i64 n])
  have CK := known_any (w.alloc (.cells #[.int .i64 1, .int .i64 to, .int .i64 fr, .int .i64 at_, .int .i64 n] 39)) ⟨1, to, fr, at_, n⟩
  unfold DoV.cells at CK
  dsimp only at CK
  rw [show (decide ((1 : Int) ≤ 1) && decide ((1 : Int) ≤ 7)) = true from rfl] at CK
  have t1 : decide (n < 0) = false := by simp; omega
  have t2 : decide (4 < n) = true := by simp; omega
  clear h
  have HCK := hide CK
  have HB0 := hide hb0
  clear CK hb0
  go_enter Try.func107, Try.ntmps107
  go_wp2_with fail
  refine HCK.out.mono ?_
  rintro e w1 ⟨rfl, hb1⟩
  obtain ⟨c1, c2, c3⟩ := (BX.out.below_ hb1).rules
  have c4 := (c1 0).trans (show _ = some (.int .i64 1) from rfl)
  have c5 := (c1 1).trans (show _ = some (.int .i64 to) from rfl)
  have c6 := (c1 2).trans (show _ = some (.int .i64 fr) from rfl)
  have c7 := (c1 4).trans (show _ = some (.int .i64 n) from rfl)
  have HB1 := hide (HB0.out.trans (hb1.mono HB0.out.size))
  have BX1 := hide (BX.out.below_ hb1)
  clear hb1 HB0 HCK BX c1
  have CT2 := hide (there_any (w1.alloc (.cells #[.int .i64 to] 3)) w1.heap.size to false ht (Blk.new w1 3 #[.int .i64 to]))
  clear ht
  go_wp2_with fail
  refine CT2.out.mono ?_
  rintro e w2 ⟨rfl, rfl⟩
  have hb2 : Below w1.heap.size w1 (w1.alloc (.cells #[.int .i64 to] 3)) := (Below.refl _ _).alloc (Nat.le_refl _) _
  have HB2 := hide (HB1.out.trans (hb2.mono HB1.out.size))
  have BX2 := hide (BX1.out.below_ hb2)
  obtain ⟨W2, hW2⟩ : ∃ X, w1.alloc (.cells #[.int .i64 to] 3) = X := ⟨_, rfl⟩
  rw [hW2] at HB2 BX2 ⊢
  obtain ⟨c1, c2, c3⟩ := BX2.out.rules
  have c4 := (c1 0).trans (show _ = some (.int .i64 1) from rfl)
  have c5 := (c1 1).trans (show _ = some (.int .i64 to) from rfl)
  have c6 := (c1 2).trans (show _ = some (.int .i64 fr) from rfl)
  have c7 := (c1 4).trans (show _ = some (.int .i64 n) from rfl)
  clear hb2 HB1 BX1 CT2 hW2 c1
  go_wp2_with fail
  go_ret
  exact ⟨rfl, HB2.out⟩
set_option maxRecDepth 100000 in
set_option maxHeartbeats 4000000 in
theorem wrong_1_ok (ht : badR to = false) (h : 0 ≤ n) (h2 : n ≤ 4) : Calls Try.prog 107 #[.agg #[.int .i64 1, .int .i64 to, .int .i64 fr, .int .i64 at_, .int .i64 n]] w fun e w' => e = .returned (.int .i64 0) ∧ Below w.heap.size w w' := by
  have hb0 : Below w.heap.size w (w.alloc (.cells #[.int .i64 1, .int .i64 to, .int .i64 fr, .int .i64 at_, .int .i64 n] 39)) := (Below.refl _ w).alloc (Nat.le_refl _) _
  have BX := hide (Blk.new w 39 #[.int .i64 1, .int .i64 to, .int .i64 fr, .int .i64 at_, .int .i64 n])
  have CK := known_any (w.alloc (.cells #[.int .i64 1, .int .i64 to, .int .i64 fr, .int .i64 at_, .int .i64 n] 39)) ⟨1, to, fr, at_, n⟩
  unfold DoV.cells at CK
  dsimp only at CK
  rw [show (decide ((1 : Int) ≤ 1) && decide ((1 : Int) ≤ 7)) = true from rfl] at CK
  have t1 : decide (n < 0) = false := by simp; omega
  have t2 : decide (4 < n) = false := by simp; omega
  clear h h2
  have HCK := hide CK
  have HB0 := hide hb0
  clear CK hb0
  go_enter Try.func107, Try.ntmps107
  go_wp2_with fail
  refine HCK.out.mono ?_
  rintro e w1 ⟨rfl, hb1⟩
  obtain ⟨c1, c2, c3⟩ := (BX.out.below_ hb1).rules
  have c4 := (c1 0).trans (show _ = some (.int .i64 1) from rfl)
  have c5 := (c1 1).trans (show _ = some (.int .i64 to) from rfl)
  have c6 := (c1 2).trans (show _ = some (.int .i64 fr) from rfl)
  have c7 := (c1 4).trans (show _ = some (.int .i64 n) from rfl)
  have HB1 := hide (HB0.out.trans (hb1.mono HB0.out.size))
  have BX1 := hide (BX.out.below_ hb1)
  clear hb1 HB0 HCK BX c1
  have CT2 := hide (there_any (w1.alloc (.cells #[.int .i64 to] 3)) w1.heap.size to false ht (Blk.new w1 3 #[.int .i64 to]))
  clear ht
  go_wp2_with fail
  refine CT2.out.mono ?_
  rintro e w2 ⟨rfl, rfl⟩
  have hb2 : Below w1.heap.size w1 (w1.alloc (.cells #[.int .i64 to] 3)) := (Below.refl _ _).alloc (Nat.le_refl _) _
  have HB2 := hide (HB1.out.trans (hb2.mono HB1.out.size))
  have BX2 := hide (BX1.out.below_ hb2)
  obtain ⟨W2, hW2⟩ : ∃ X, w1.alloc (.cells #[.int .i64 to] 3) = X := ⟨_, rfl⟩
  rw [hW2] at HB2 BX2 ⊢
  obtain ⟨c1, c2, c3⟩ := BX2.out.rules
  have c4 := (c1 0).trans (show _ = some (.int .i64 1) from rfl)
  have c5 := (c1 1).trans (show _ = some (.int .i64 to) from rfl)
  have c6 := (c1 2).trans (show _ = some (.int .i64 fr) from rfl)
  have c7 := (c1 4).trans (show _ = some (.int .i64 n) from rfl)
  clear hb2 HB1 BX1 CT2 hW2 c1
  go_wp2_with fail
  go_ret
  exact ⟨rfl, HB2.out⟩
set_option maxRecDepth 100000 in
set_option maxHeartbeats 4000000 in
theorem wrong_2_to (ht : badR to = true) : Calls Try.prog 107 #[.agg #[.int .i64 2, .int .i64 to, .int .i64 fr, .int .i64 at_, .int .i64 n]] w fun e w' => e = .returned (.int .i64 2) ∧ Below w.heap.size w w' := by
  have hb0 : Below w.heap.size w (w.alloc (.cells #[.int .i64 2, .int .i64 to, .int .i64 fr, .int .i64 at_, .int .i64 n] 39)) := (Below.refl _ w).alloc (Nat.le_refl _) _
  have BX := hide (Blk.new w 39 #[.int .i64 2, .int .i64 to, .int .i64 fr, .int .i64 at_, .int .i64 n])
  have CK := known_any (w.alloc (.cells #[.int .i64 2, .int .i64 to, .int .i64 fr, .int .i64 at_, .int .i64 n] 39)) ⟨2, to, fr, at_, n⟩
  unfold DoV.cells at CK
  dsimp only at CK
  rw [show (decide ((1 : Int) ≤ 2) && decide ((2 : Int) ≤ 7)) = true from rfl] at CK
  have HCK := hide CK
  have HB0 := hide hb0
  clear CK hb0
  go_enter Try.func107, Try.ntmps107
  go_wp2_with fail
  refine HCK.out.mono ?_
  rintro e w1 ⟨rfl, hb1⟩
  obtain ⟨c1, c2, c3⟩ := (BX.out.below_ hb1).rules
  have c4 := (c1 0).trans (show _ = some (.int .i64 2) from rfl)
  have c5 := (c1 1).trans (show _ = some (.int .i64 to) from rfl)
  have c6 := (c1 2).trans (show _ = some (.int .i64 fr) from rfl)
  have c7 := (c1 4).trans (show _ = some (.int .i64 n) from rfl)
  have HB1 := hide (HB0.out.trans (hb1.mono HB0.out.size))
  have BX1 := hide (BX.out.below_ hb1)
  clear hb1 HB0 HCK BX c1
  have CT2 := hide (there_any (w1.alloc (.cells #[.int .i64 to] 3)) w1.heap.size to true ht (Blk.new w1 3 #[.int .i64 to]))
  clear ht
  go_wp2_with fail
  refine CT2.out.mono ?_
  rintro e w2 ⟨rfl, rfl⟩
  have hb2 : Below w1.heap.size w1 (w1.alloc (.cells #[.int .i64 to] 3)) := (Below.refl _ _).alloc (Nat.le_refl _) _
  have HB2 := hide (HB1.out.trans (hb2.mono HB1.out.size))
  have BX2 := hide (BX1.out.below_ hb2)
  obtain ⟨W2, hW2⟩ : ∃ X, w1.alloc (.cells #[.int .i64 to] 3) = X := ⟨_, rfl⟩
  rw [hW2] at HB2 BX2 ⊢
  obtain ⟨c1, c2, c3⟩ := BX2.out.rules
  have c4 := (c1 0).trans (show _ = some (.int .i64 2) from rfl)
  have c5 := (c1 1).trans (show _ = some (.int .i64 to) from rfl)
  have c6 := (c1 2).trans (show _ = some (.int .i64 fr) from rfl)
  have c7 := (c1 4).trans (show _ = some (.int .i64 n) from rfl)
  clear hb2 HB1 BX1 CT2 hW2 c1
  go_wp2_with fail
  go_ret
  exact ⟨rfl, HB2.out⟩
set_option maxRecDepth 100000 in
set_option maxHeartbeats 4000000 in
theorem wrong_2_lo (ht : badR to = false) (h : n < -4611686018427387904) : Calls Try.prog 107 #[.agg #[.int .i64 2, .int .i64 to, .int .i64 fr, .int .i64 at_, .int .i64 n]] w fun e w' => e = .returned (.int .i64 3) ∧ Below w.heap.size w w' := by
  have hb0 : Below w.heap.size w (w.alloc (.cells #[.int .i64 2, .int .i64 to, .int .i64 fr, .int .i64 at_, .int .i64 n] 39)) := (Below.refl _ w).alloc (Nat.le_refl _) _
  have BX := hide (Blk.new w 39 #[.int .i64 2, .int .i64 to, .int .i64 fr, .int .i64 at_, .int .i64 n])
  have CK := known_any (w.alloc (.cells #[.int .i64 2, .int .i64 to, .int .i64 fr, .int .i64 at_, .int .i64 n] 39)) ⟨2, to, fr, at_, n⟩
  unfold DoV.cells at CK
  dsimp only at CK
  rw [show (decide ((1 : Int) ≤ 2) && decide ((2 : Int) ≤ 7)) = true from rfl] at CK
  have t1 : decide (n < -4611686018427387904) = true := by simp; omega
  clear h
  have HCK := hide CK
  have HB0 := hide hb0
  clear CK hb0
  go_enter Try.func107, Try.ntmps107
  go_wp2_with fail
  refine HCK.out.mono ?_
  rintro e w1 ⟨rfl, hb1⟩
  obtain ⟨c1, c2, c3⟩ := (BX.out.below_ hb1).rules
  have c4 := (c1 0).trans (show _ = some (.int .i64 2) from rfl)
  have c5 := (c1 1).trans (show _ = some (.int .i64 to) from rfl)
  have c6 := (c1 2).trans (show _ = some (.int .i64 fr) from rfl)
  have c7 := (c1 4).trans (show _ = some (.int .i64 n) from rfl)
  have HB1 := hide (HB0.out.trans (hb1.mono HB0.out.size))
  have BX1 := hide (BX.out.below_ hb1)
  clear hb1 HB0 HCK BX c1
  have CT2 := hide (there_any (w1.alloc (.cells #[.int .i64 to] 3)) w1.heap.size to false ht (Blk.new w1 3 #[.int .i64 to]))
  clear ht
  go_wp2_with fail
  refine CT2.out.mono ?_
  rintro e w2 ⟨rfl, rfl⟩
  have hb2 : Below w1.heap.size w1 (w1.alloc (.cells #[.int .i64 to] 3)) := (Below.refl _ _).alloc (Nat.le_refl _) _
  have HB2 := hide (HB1.out.trans (hb2.mono HB1.out.size))
  have BX2 := hide (BX1.out.below_ hb2)
  obtain ⟨W2, hW2⟩ : ∃ X, w1.alloc (.cells #[.int .i64 to] 3) = X := ⟨_, rfl⟩
  rw [hW2] at HB2 BX2 ⊢
  obtain ⟨c1, c2, c3⟩ := BX2.out.rules
  have c4 := (c1 0).trans (show _ = some (.int .i64 2) from rfl)
  have c5 := (c1 1).trans (show _ = some (.int .i64 to) from rfl)
  have c6 := (c1 2).trans (show _ = some (.int .i64 fr) from rfl)
  have c7 := (c1 4).trans (show _ = some (.int .i64 n) from rfl)
  clear hb2 HB1 BX1 CT2 hW2 c1
  go_wp2_with fail
  go_ret
  exact ⟨rfl, HB2.out⟩
set_option maxRecDepth 100000 in
set_option maxHeartbeats 4000000 in
theorem wrong_2_hi (ht : badR to = false) (h : 4611686018427387903 < n) : Calls Try.prog 107 #[.agg #[.int .i64 2, .int .i64 to, .int .i64 fr, .int .i64 at_, .int .i64 n]] w fun e w' => e = .returned (.int .i64 3) ∧ Below w.heap.size w w' := by
  have hb0 : Below w.heap.size w (w.alloc (.cells #[.int .i64 2, .int .i64 to, .int .i64 fr, .int .i64 at_, .int .i64 n] 39)) := (Below.refl _ w).alloc (Nat.le_refl _) _
  have BX := hide (Blk.new w 39 #[.int .i64 2, .int .i64 to, .int .i64 fr, .int .i64 at_, .int .i64 n])
  have CK := known_any (w.alloc (.cells #[.int .i64 2, .int .i64 to, .int .i64 fr, .int .i64 at_, .int .i64 n] 39)) ⟨2, to, fr, at_, n⟩
  unfold DoV.cells at CK
  dsimp only at CK
  rw [show (decide ((1 : Int) ≤ 2) && decide ((2 : Int) ≤ 7)) = true from rfl] at CK
  have t1 : decide (n < -4611686018427387904) = false := by simp; omega
  have t2 : decide (4611686018427387903 < n) = true := by simp; omega
  clear h
  have HCK := hide CK
  have HB0 := hide hb0
  clear CK hb0
  go_enter Try.func107, Try.ntmps107
  go_wp2_with fail
  refine HCK.out.mono ?_
  rintro e w1 ⟨rfl, hb1⟩
  obtain ⟨c1, c2, c3⟩ := (BX.out.below_ hb1).rules
  have c4 := (c1 0).trans (show _ = some (.int .i64 2) from rfl)
  have c5 := (c1 1).trans (show _ = some (.int .i64 to) from rfl)
  have c6 := (c1 2).trans (show _ = some (.int .i64 fr) from rfl)
  have c7 := (c1 4).trans (show _ = some (.int .i64 n) from rfl)
  have HB1 := hide (HB0.out.trans (hb1.mono HB0.out.size))
  have BX1 := hide (BX.out.below_ hb1)
  clear hb1 HB0 HCK BX c1
  have CT2 := hide (there_any (w1.alloc (.cells #[.int .i64 to] 3)) w1.heap.size to false ht (Blk.new w1 3 #[.int .i64 to]))
  clear ht
  go_wp2_with fail
  refine CT2.out.mono ?_
  rintro e w2 ⟨rfl, rfl⟩
  have hb2 : Below w1.heap.size w1 (w1.alloc (.cells #[.int .i64 to] 3)) := (Below.refl _ _).alloc (Nat.le_refl _) _
  have HB2 := hide (HB1.out.trans (hb2.mono HB1.out.size))
  have BX2 := hide (BX1.out.below_ hb2)
  obtain ⟨W2, hW2⟩ : ∃ X, w1.alloc (.cells #[.int .i64 to] 3) = X := ⟨_, rfl⟩
  rw [hW2] at HB2 BX2 ⊢
  obtain ⟨c1, c2, c3⟩ := BX2.out.rules
  have c4 := (c1 0).trans (show _ = some (.int .i64 2) from rfl)
  have c5 := (c1 1).trans (show _ = some (.int .i64 to) from rfl)
  have c6 := (c1 2).trans (show _ = some (.int .i64 fr) from rfl)
  have c7 := (c1 4).trans (show _ = some (.int .i64 n) from rfl)
  clear hb2 HB1 BX1 CT2 hW2 c1
  go_wp2_with fail
  go_ret
  exact ⟨rfl, HB2.out⟩
set_option maxRecDepth 100000 in
set_option maxHeartbeats 4000000 in
theorem wrong_2_ok (ht : badR to = false) (h : -4611686018427387904 ≤ n) (h2 : n ≤ 4611686018427387903) : Calls Try.prog 107 #[.agg #[.int .i64 2, .int .i64 to, .int .i64 fr, .int .i64 at_, .int .i64 n]] w fun e w' => e = .returned (.int .i64 0) ∧ Below w.heap.size w w' := by
  have hb0 : Below w.heap.size w (w.alloc (.cells #[.int .i64 2, .int .i64 to, .int .i64 fr, .int .i64 at_, .int .i64 n] 39)) := (Below.refl _ w).alloc (Nat.le_refl _) _
  have BX := hide (Blk.new w 39 #[.int .i64 2, .int .i64 to, .int .i64 fr, .int .i64 at_, .int .i64 n])
  have CK := known_any (w.alloc (.cells #[.int .i64 2, .int .i64 to, .int .i64 fr, .int .i64 at_, .int .i64 n] 39)) ⟨2, to, fr, at_, n⟩
  unfold DoV.cells at CK
  dsimp only at CK
  rw [show (decide ((1 : Int) ≤ 2) && decide ((2 : Int) ≤ 7)) = true from rfl] at CK
  have t1 : decide (n < -4611686018427387904) = false := by simp; omega
  have t2 : decide (4611686018427387903 < n) = false := by simp; omega
  clear h h2
  have HCK := hide CK
  have HB0 := hide hb0
  clear CK hb0
  go_enter Try.func107, Try.ntmps107
  go_wp2_with fail
  refine HCK.out.mono ?_
  rintro e w1 ⟨rfl, hb1⟩
  obtain ⟨c1, c2, c3⟩ := (BX.out.below_ hb1).rules
  have c4 := (c1 0).trans (show _ = some (.int .i64 2) from rfl)
  have c5 := (c1 1).trans (show _ = some (.int .i64 to) from rfl)
  have c6 := (c1 2).trans (show _ = some (.int .i64 fr) from rfl)
  have c7 := (c1 4).trans (show _ = some (.int .i64 n) from rfl)
  have HB1 := hide (HB0.out.trans (hb1.mono HB0.out.size))
  have BX1 := hide (BX.out.below_ hb1)
  clear hb1 HB0 HCK BX c1
  have CT2 := hide (there_any (w1.alloc (.cells #[.int .i64 to] 3)) w1.heap.size to false ht (Blk.new w1 3 #[.int .i64 to]))
  clear ht
  go_wp2_with fail
  refine CT2.out.mono ?_
  rintro e w2 ⟨rfl, rfl⟩
  have hb2 : Below w1.heap.size w1 (w1.alloc (.cells #[.int .i64 to] 3)) := (Below.refl _ _).alloc (Nat.le_refl _) _
  have HB2 := hide (HB1.out.trans (hb2.mono HB1.out.size))
  have BX2 := hide (BX1.out.below_ hb2)
  obtain ⟨W2, hW2⟩ : ∃ X, w1.alloc (.cells #[.int .i64 to] 3) = X := ⟨_, rfl⟩
  rw [hW2] at HB2 BX2 ⊢
  obtain ⟨c1, c2, c3⟩ := BX2.out.rules
  have c4 := (c1 0).trans (show _ = some (.int .i64 2) from rfl)
  have c5 := (c1 1).trans (show _ = some (.int .i64 to) from rfl)
  have c6 := (c1 2).trans (show _ = some (.int .i64 fr) from rfl)
  have c7 := (c1 4).trans (show _ = some (.int .i64 n) from rfl)
  clear hb2 HB1 BX1 CT2 hW2 c1
  go_wp2_with fail
  go_ret
  exact ⟨rfl, HB2.out⟩
set_option maxRecDepth 100000 in
set_option maxHeartbeats 4000000 in
theorem wrong_3_to (ht : badR to = true) : Calls Try.prog 107 #[.agg #[.int .i64 3, .int .i64 to, .int .i64 fr, .int .i64 at_, .int .i64 n]] w fun e w' => e = .returned (.int .i64 2) ∧ Below w.heap.size w w' := by
  have hb0 : Below w.heap.size w (w.alloc (.cells #[.int .i64 3, .int .i64 to, .int .i64 fr, .int .i64 at_, .int .i64 n] 39)) := (Below.refl _ w).alloc (Nat.le_refl _) _
  have BX := hide (Blk.new w 39 #[.int .i64 3, .int .i64 to, .int .i64 fr, .int .i64 at_, .int .i64 n])
  have CK := known_any (w.alloc (.cells #[.int .i64 3, .int .i64 to, .int .i64 fr, .int .i64 at_, .int .i64 n] 39)) ⟨3, to, fr, at_, n⟩
  unfold DoV.cells at CK
  dsimp only at CK
  rw [show (decide ((1 : Int) ≤ 3) && decide ((3 : Int) ≤ 7)) = true from rfl] at CK
  have HCK := hide CK
  have HB0 := hide hb0
  clear CK hb0
  go_enter Try.func107, Try.ntmps107
  go_wp2_with fail
  refine HCK.out.mono ?_
  rintro e w1 ⟨rfl, hb1⟩
  obtain ⟨c1, c2, c3⟩ := (BX.out.below_ hb1).rules
  have c4 := (c1 0).trans (show _ = some (.int .i64 3) from rfl)
  have c5 := (c1 1).trans (show _ = some (.int .i64 to) from rfl)
  have c6 := (c1 2).trans (show _ = some (.int .i64 fr) from rfl)
  have c7 := (c1 4).trans (show _ = some (.int .i64 n) from rfl)
  have HB1 := hide (HB0.out.trans (hb1.mono HB0.out.size))
  have BX1 := hide (BX.out.below_ hb1)
  clear hb1 HB0 HCK BX c1
  have CT2 := hide (there_any (w1.alloc (.cells #[.int .i64 to] 3)) w1.heap.size to true ht (Blk.new w1 3 #[.int .i64 to]))
  clear ht
  go_wp2_with fail
  refine CT2.out.mono ?_
  rintro e w2 ⟨rfl, rfl⟩
  have hb2 : Below w1.heap.size w1 (w1.alloc (.cells #[.int .i64 to] 3)) := (Below.refl _ _).alloc (Nat.le_refl _) _
  have HB2 := hide (HB1.out.trans (hb2.mono HB1.out.size))
  have BX2 := hide (BX1.out.below_ hb2)
  obtain ⟨W2, hW2⟩ : ∃ X, w1.alloc (.cells #[.int .i64 to] 3) = X := ⟨_, rfl⟩
  rw [hW2] at HB2 BX2 ⊢
  obtain ⟨c1, c2, c3⟩ := BX2.out.rules
  have c4 := (c1 0).trans (show _ = some (.int .i64 3) from rfl)
  have c5 := (c1 1).trans (show _ = some (.int .i64 to) from rfl)
  have c6 := (c1 2).trans (show _ = some (.int .i64 fr) from rfl)
  have c7 := (c1 4).trans (show _ = some (.int .i64 n) from rfl)
  clear hb2 HB1 BX1 CT2 hW2 c1
  go_wp2_with fail
  go_ret
  exact ⟨rfl, HB2.out⟩
set_option maxRecDepth 100000 in
set_option maxHeartbeats 4000000 in
theorem wrong_3_fr (ht : badR to = false) (hf : badR fr = true) : Calls Try.prog 107 #[.agg #[.int .i64 3, .int .i64 to, .int .i64 fr, .int .i64 at_, .int .i64 n]] w fun e w' => e = .returned (.int .i64 2) ∧ Below w.heap.size w w' := by
  have hb0 : Below w.heap.size w (w.alloc (.cells #[.int .i64 3, .int .i64 to, .int .i64 fr, .int .i64 at_, .int .i64 n] 39)) := (Below.refl _ w).alloc (Nat.le_refl _) _
  have BX := hide (Blk.new w 39 #[.int .i64 3, .int .i64 to, .int .i64 fr, .int .i64 at_, .int .i64 n])
  have CK := known_any (w.alloc (.cells #[.int .i64 3, .int .i64 to, .int .i64 fr, .int .i64 at_, .int .i64 n] 39)) ⟨3, to, fr, at_, n⟩
  unfold DoV.cells at CK
  dsimp only at CK
  rw [show (decide ((1 : Int) ≤ 3) && decide ((3 : Int) ≤ 7)) = true from rfl] at CK
  have HCK := hide CK
  have HB0 := hide hb0
  clear CK hb0
  go_enter Try.func107, Try.ntmps107
  go_wp2_with fail
  refine HCK.out.mono ?_
  rintro e w1 ⟨rfl, hb1⟩
  obtain ⟨c1, c2, c3⟩ := (BX.out.below_ hb1).rules
  have c4 := (c1 0).trans (show _ = some (.int .i64 3) from rfl)
  have c5 := (c1 1).trans (show _ = some (.int .i64 to) from rfl)
  have c6 := (c1 2).trans (show _ = some (.int .i64 fr) from rfl)
  have c7 := (c1 4).trans (show _ = some (.int .i64 n) from rfl)
  have HB1 := hide (HB0.out.trans (hb1.mono HB0.out.size))
  have BX1 := hide (BX.out.below_ hb1)
  clear hb1 HB0 HCK BX c1
  have CT2 := hide (there_any (w1.alloc (.cells #[.int .i64 to] 3)) w1.heap.size to false ht (Blk.new w1 3 #[.int .i64 to]))
  clear ht
  go_wp2_with fail
  refine CT2.out.mono ?_
  rintro e w2 ⟨rfl, rfl⟩
  have hb2 : Below w1.heap.size w1 (w1.alloc (.cells #[.int .i64 to] 3)) := (Below.refl _ _).alloc (Nat.le_refl _) _
  have HB2 := hide (HB1.out.trans (hb2.mono HB1.out.size))
  have BX2 := hide (BX1.out.below_ hb2)
  obtain ⟨W2, hW2⟩ : ∃ X, w1.alloc (.cells #[.int .i64 to] 3) = X := ⟨_, rfl⟩
  rw [hW2] at HB2 BX2 ⊢
  obtain ⟨c1, c2, c3⟩ := BX2.out.rules
  have c4 := (c1 0).trans (show _ = some (.int .i64 3) from rfl)
  have c5 := (c1 1).trans (show _ = some (.int .i64 to) from rfl)
  have c6 := (c1 2).trans (show _ = some (.int .i64 fr) from rfl)
  have c7 := (c1 4).trans (show _ = some (.int .i64 n) from rfl)
  clear hb2 HB1 BX1 CT2 hW2 c1
  have CT3 := hide (there_any (W2.alloc (.cells #[.int .i64 fr] 3)) W2.heap.size fr true hf (Blk.new W2 3 #[.int .i64 fr]))
  clear hf
  go_wp2_with fail
  refine CT3.out.mono ?_
  rintro e w3 ⟨rfl, rfl⟩
  have hb3 : Below W2.heap.size W2 (W2.alloc (.cells #[.int .i64 fr] 3)) := (Below.refl _ _).alloc (Nat.le_refl _) _
  have HB3 := hide (HB2.out.trans (hb3.mono HB2.out.size))
  have BX3 := hide (BX2.out.below_ hb3)
  obtain ⟨W3, hW3⟩ : ∃ X, W2.alloc (.cells #[.int .i64 fr] 3) = X := ⟨_, rfl⟩
  rw [hW3] at HB3 BX3 ⊢
  obtain ⟨c1, c2, c3⟩ := BX3.out.rules
  have c4 := (c1 0).trans (show _ = some (.int .i64 3) from rfl)
  have c5 := (c1 1).trans (show _ = some (.int .i64 to) from rfl)
  have c6 := (c1 2).trans (show _ = some (.int .i64 fr) from rfl)
  have c7 := (c1 4).trans (show _ = some (.int .i64 n) from rfl)
  clear hb3 HB2 BX2 CT3 hW3 c1
  go_wp2_with fail
  go_ret
  exact ⟨rfl, HB3.out⟩
set_option maxRecDepth 100000 in
set_option maxHeartbeats 4000000 in
theorem wrong_3_ok (ht : badR to = false) (hf : badR fr = false) : Calls Try.prog 107 #[.agg #[.int .i64 3, .int .i64 to, .int .i64 fr, .int .i64 at_, .int .i64 n]] w fun e w' => e = .returned (.int .i64 0) ∧ Below w.heap.size w w' := by
  have hb0 : Below w.heap.size w (w.alloc (.cells #[.int .i64 3, .int .i64 to, .int .i64 fr, .int .i64 at_, .int .i64 n] 39)) := (Below.refl _ w).alloc (Nat.le_refl _) _
  have BX := hide (Blk.new w 39 #[.int .i64 3, .int .i64 to, .int .i64 fr, .int .i64 at_, .int .i64 n])
  have CK := known_any (w.alloc (.cells #[.int .i64 3, .int .i64 to, .int .i64 fr, .int .i64 at_, .int .i64 n] 39)) ⟨3, to, fr, at_, n⟩
  unfold DoV.cells at CK
  dsimp only at CK
  rw [show (decide ((1 : Int) ≤ 3) && decide ((3 : Int) ≤ 7)) = true from rfl] at CK
  have HCK := hide CK
  have HB0 := hide hb0
  clear CK hb0
  go_enter Try.func107, Try.ntmps107
  go_wp2_with fail
  refine HCK.out.mono ?_
  rintro e w1 ⟨rfl, hb1⟩
  obtain ⟨c1, c2, c3⟩ := (BX.out.below_ hb1).rules
  have c4 := (c1 0).trans (show _ = some (.int .i64 3) from rfl)
  have c5 := (c1 1).trans (show _ = some (.int .i64 to) from rfl)
  have c6 := (c1 2).trans (show _ = some (.int .i64 fr) from rfl)
  have c7 := (c1 4).trans (show _ = some (.int .i64 n) from rfl)
  have HB1 := hide (HB0.out.trans (hb1.mono HB0.out.size))
  have BX1 := hide (BX.out.below_ hb1)
  clear hb1 HB0 HCK BX c1
  have CT2 := hide (there_any (w1.alloc (.cells #[.int .i64 to] 3)) w1.heap.size to false ht (Blk.new w1 3 #[.int .i64 to]))
  clear ht
  go_wp2_with fail
  refine CT2.out.mono ?_
  rintro e w2 ⟨rfl, rfl⟩
  have hb2 : Below w1.heap.size w1 (w1.alloc (.cells #[.int .i64 to] 3)) := (Below.refl _ _).alloc (Nat.le_refl _) _
  have HB2 := hide (HB1.out.trans (hb2.mono HB1.out.size))
  have BX2 := hide (BX1.out.below_ hb2)
  obtain ⟨W2, hW2⟩ : ∃ X, w1.alloc (.cells #[.int .i64 to] 3) = X := ⟨_, rfl⟩
  rw [hW2] at HB2 BX2 ⊢
  obtain ⟨c1, c2, c3⟩ := BX2.out.rules
  have c4 := (c1 0).trans (show _ = some (.int .i64 3) from rfl)
  have c5 := (c1 1).trans (show _ = some (.int .i64 to) from rfl)
  have c6 := (c1 2).trans (show _ = some (.int .i64 fr) from rfl)
  have c7 := (c1 4).trans (show _ = some (.int .i64 n) from rfl)
  clear hb2 HB1 BX1 CT2 hW2 c1
  have CT3 := hide (there_any (W2.alloc (.cells #[.int .i64 fr] 3)) W2.heap.size fr false hf (Blk.new W2 3 #[.int .i64 fr]))
  clear hf
  go_wp2_with fail
  refine CT3.out.mono ?_
  rintro e w3 ⟨rfl, rfl⟩
  have hb3 : Below W2.heap.size W2 (W2.alloc (.cells #[.int .i64 fr] 3)) := (Below.refl _ _).alloc (Nat.le_refl _) _
  have HB3 := hide (HB2.out.trans (hb3.mono HB2.out.size))
  have BX3 := hide (BX2.out.below_ hb3)
  obtain ⟨W3, hW3⟩ : ∃ X, W2.alloc (.cells #[.int .i64 fr] 3) = X := ⟨_, rfl⟩
  rw [hW3] at HB3 BX3 ⊢
  obtain ⟨c1, c2, c3⟩ := BX3.out.rules
  have c4 := (c1 0).trans (show _ = some (.int .i64 3) from rfl)
  have c5 := (c1 1).trans (show _ = some (.int .i64 to) from rfl)
  have c6 := (c1 2).trans (show _ = some (.int .i64 fr) from rfl)
  have c7 := (c1 4).trans (show _ = some (.int .i64 n) from rfl)
  clear hb3 HB2 BX2 CT3 hW3 c1
  go_wp2_with fail
  go_ret
  exact ⟨rfl, HB3.out⟩
set_option maxRecDepth 100000 in
set_option maxHeartbeats 4000000 in
theorem wrong_4_to (ht : badR to = true) : Calls Try.prog 107 #[.agg #[.int .i64 4, .int .i64 to, .int .i64 fr, .int .i64 at_, .int .i64 n]] w fun e w' => e = .returned (.int .i64 2) ∧ Below w.heap.size w w' := by
  have hb0 : Below w.heap.size w (w.alloc (.cells #[.int .i64 4, .int .i64 to, .int .i64 fr, .int .i64 at_, .int .i64 n] 39)) := (Below.refl _ w).alloc (Nat.le_refl _) _
  have BX := hide (Blk.new w 39 #[.int .i64 4, .int .i64 to, .int .i64 fr, .int .i64 at_, .int .i64 n])
  have CK := known_any (w.alloc (.cells #[.int .i64 4, .int .i64 to, .int .i64 fr, .int .i64 at_, .int .i64 n] 39)) ⟨4, to, fr, at_, n⟩
  unfold DoV.cells at CK
  dsimp only at CK
  rw [show (decide ((1 : Int) ≤ 4) && decide ((4 : Int) ≤ 7)) = true from rfl] at CK
  have HCK := hide CK
  have HB0 := hide hb0
  clear CK hb0
  go_enter Try.func107, Try.ntmps107
  go_wp2_with fail
  refine HCK.out.mono ?_
  rintro e w1 ⟨rfl, hb1⟩
  obtain ⟨c1, c2, c3⟩ := (BX.out.below_ hb1).rules
  have c4 := (c1 0).trans (show _ = some (.int .i64 4) from rfl)
  have c5 := (c1 1).trans (show _ = some (.int .i64 to) from rfl)
  have c6 := (c1 2).trans (show _ = some (.int .i64 fr) from rfl)
  have c7 := (c1 4).trans (show _ = some (.int .i64 n) from rfl)
  have HB1 := hide (HB0.out.trans (hb1.mono HB0.out.size))
  have BX1 := hide (BX.out.below_ hb1)
  clear hb1 HB0 HCK BX c1
  have CT2 := hide (there_any (w1.alloc (.cells #[.int .i64 to] 3)) w1.heap.size to true ht (Blk.new w1 3 #[.int .i64 to]))
  clear ht
  go_wp2_with fail
  refine CT2.out.mono ?_
  rintro e w2 ⟨rfl, rfl⟩
  have hb2 : Below w1.heap.size w1 (w1.alloc (.cells #[.int .i64 to] 3)) := (Below.refl _ _).alloc (Nat.le_refl _) _
  have HB2 := hide (HB1.out.trans (hb2.mono HB1.out.size))
  have BX2 := hide (BX1.out.below_ hb2)
  obtain ⟨W2, hW2⟩ : ∃ X, w1.alloc (.cells #[.int .i64 to] 3) = X := ⟨_, rfl⟩
  rw [hW2] at HB2 BX2 ⊢
  obtain ⟨c1, c2, c3⟩ := BX2.out.rules
  have c4 := (c1 0).trans (show _ = some (.int .i64 4) from rfl)
  have c5 := (c1 1).trans (show _ = some (.int .i64 to) from rfl)
  have c6 := (c1 2).trans (show _ = some (.int .i64 fr) from rfl)
  have c7 := (c1 4).trans (show _ = some (.int .i64 n) from rfl)
  clear hb2 HB1 BX1 CT2 hW2 c1
  go_wp2_with fail
  go_ret
  exact ⟨rfl, HB2.out⟩
set_option maxRecDepth 100000 in
set_option maxHeartbeats 4000000 in
theorem wrong_4_fr (ht : badR to = false) (hf : badR fr = true) : Calls Try.prog 107 #[.agg #[.int .i64 4, .int .i64 to, .int .i64 fr, .int .i64 at_, .int .i64 n]] w fun e w' => e = .returned (.int .i64 2) ∧ Below w.heap.size w w' := by
  have hb0 : Below w.heap.size w (w.alloc (.cells #[.int .i64 4, .int .i64 to, .int .i64 fr, .int .i64 at_, .int .i64 n] 39)) := (Below.refl _ w).alloc (Nat.le_refl _) _
  have BX := hide (Blk.new w 39 #[.int .i64 4, .int .i64 to, .int .i64 fr, .int .i64 at_, .int .i64 n])
  have CK := known_any (w.alloc (.cells #[.int .i64 4, .int .i64 to, .int .i64 fr, .int .i64 at_, .int .i64 n] 39)) ⟨4, to, fr, at_, n⟩
  unfold DoV.cells at CK
  dsimp only at CK
  rw [show (decide ((1 : Int) ≤ 4) && decide ((4 : Int) ≤ 7)) = true from rfl] at CK
  have HCK := hide CK
  have HB0 := hide hb0
  clear CK hb0
  go_enter Try.func107, Try.ntmps107
  go_wp2_with fail
  refine HCK.out.mono ?_
  rintro e w1 ⟨rfl, hb1⟩
  obtain ⟨c1, c2, c3⟩ := (BX.out.below_ hb1).rules
  have c4 := (c1 0).trans (show _ = some (.int .i64 4) from rfl)
  have c5 := (c1 1).trans (show _ = some (.int .i64 to) from rfl)
  have c6 := (c1 2).trans (show _ = some (.int .i64 fr) from rfl)
  have c7 := (c1 4).trans (show _ = some (.int .i64 n) from rfl)
  have HB1 := hide (HB0.out.trans (hb1.mono HB0.out.size))
  have BX1 := hide (BX.out.below_ hb1)
  clear hb1 HB0 HCK BX c1
  have CT2 := hide (there_any (w1.alloc (.cells #[.int .i64 to] 3)) w1.heap.size to false ht (Blk.new w1 3 #[.int .i64 to]))
  clear ht
  go_wp2_with fail
  refine CT2.out.mono ?_
  rintro e w2 ⟨rfl, rfl⟩
  have hb2 : Below w1.heap.size w1 (w1.alloc (.cells #[.int .i64 to] 3)) := (Below.refl _ _).alloc (Nat.le_refl _) _
  have HB2 := hide (HB1.out.trans (hb2.mono HB1.out.size))
  have BX2 := hide (BX1.out.below_ hb2)
  obtain ⟨W2, hW2⟩ : ∃ X, w1.alloc (.cells #[.int .i64 to] 3) = X := ⟨_, rfl⟩
  rw [hW2] at HB2 BX2 ⊢
  obtain ⟨c1, c2, c3⟩ := BX2.out.rules
  have c4 := (c1 0).trans (show _ = some (.int .i64 4) from rfl)
  have c5 := (c1 1).trans (show _ = some (.int .i64 to) from rfl)
  have c6 := (c1 2).trans (show _ = some (.int .i64 fr) from rfl)
  have c7 := (c1 4).trans (show _ = some (.int .i64 n) from rfl)
  clear hb2 HB1 BX1 CT2 hW2 c1
  have CT3 := hide (there_any (W2.alloc (.cells #[.int .i64 fr] 3)) W2.heap.size fr true hf (Blk.new W2 3 #[.int .i64 fr]))
  clear hf
  go_wp2_with fail
  refine CT3.out.mono ?_
  rintro e w3 ⟨rfl, rfl⟩
  have hb3 : Below W2.heap.size W2 (W2.alloc (.cells #[.int .i64 fr] 3)) := (Below.refl _ _).alloc (Nat.le_refl _) _
  have HB3 := hide (HB2.out.trans (hb3.mono HB2.out.size))
  have BX3 := hide (BX2.out.below_ hb3)
  obtain ⟨W3, hW3⟩ : ∃ X, W2.alloc (.cells #[.int .i64 fr] 3) = X := ⟨_, rfl⟩
  rw [hW3] at HB3 BX3 ⊢
  obtain ⟨c1, c2, c3⟩ := BX3.out.rules
  have c4 := (c1 0).trans (show _ = some (.int .i64 4) from rfl)
  have c5 := (c1 1).trans (show _ = some (.int .i64 to) from rfl)
  have c6 := (c1 2).trans (show _ = some (.int .i64 fr) from rfl)
  have c7 := (c1 4).trans (show _ = some (.int .i64 n) from rfl)
  clear hb3 HB2 BX2 CT3 hW3 c1
  go_wp2_with fail
  go_ret
  exact ⟨rfl, HB3.out⟩
set_option maxRecDepth 100000 in
set_option maxHeartbeats 4000000 in
theorem wrong_4_ok (ht : badR to = false) (hf : badR fr = false) : Calls Try.prog 107 #[.agg #[.int .i64 4, .int .i64 to, .int .i64 fr, .int .i64 at_, .int .i64 n]] w fun e w' => e = .returned (.int .i64 0) ∧ Below w.heap.size w w' := by
  have hb0 : Below w.heap.size w (w.alloc (.cells #[.int .i64 4, .int .i64 to, .int .i64 fr, .int .i64 at_, .int .i64 n] 39)) := (Below.refl _ w).alloc (Nat.le_refl _) _
  have BX := hide (Blk.new w 39 #[.int .i64 4, .int .i64 to, .int .i64 fr, .int .i64 at_, .int .i64 n])
  have CK := known_any (w.alloc (.cells #[.int .i64 4, .int .i64 to, .int .i64 fr, .int .i64 at_, .int .i64 n] 39)) ⟨4, to, fr, at_, n⟩
  unfold DoV.cells at CK
  dsimp only at CK
  rw [show (decide ((1 : Int) ≤ 4) && decide ((4 : Int) ≤ 7)) = true from rfl] at CK
  have HCK := hide CK
  have HB0 := hide hb0
  clear CK hb0
  go_enter Try.func107, Try.ntmps107
  go_wp2_with fail
  refine HCK.out.mono ?_
  rintro e w1 ⟨rfl, hb1⟩
  obtain ⟨c1, c2, c3⟩ := (BX.out.below_ hb1).rules
  have c4 := (c1 0).trans (show _ = some (.int .i64 4) from rfl)
  have c5 := (c1 1).trans (show _ = some (.int .i64 to) from rfl)
  have c6 := (c1 2).trans (show _ = some (.int .i64 fr) from rfl)
  have c7 := (c1 4).trans (show _ = some (.int .i64 n) from rfl)
  have HB1 := hide (HB0.out.trans (hb1.mono HB0.out.size))
  have BX1 := hide (BX.out.below_ hb1)
  clear hb1 HB0 HCK BX c1
  have CT2 := hide (there_any (w1.alloc (.cells #[.int .i64 to] 3)) w1.heap.size to false ht (Blk.new w1 3 #[.int .i64 to]))
  clear ht
  go_wp2_with fail
  refine CT2.out.mono ?_
  rintro e w2 ⟨rfl, rfl⟩
  have hb2 : Below w1.heap.size w1 (w1.alloc (.cells #[.int .i64 to] 3)) := (Below.refl _ _).alloc (Nat.le_refl _) _
  have HB2 := hide (HB1.out.trans (hb2.mono HB1.out.size))
  have BX2 := hide (BX1.out.below_ hb2)
  obtain ⟨W2, hW2⟩ : ∃ X, w1.alloc (.cells #[.int .i64 to] 3) = X := ⟨_, rfl⟩
  rw [hW2] at HB2 BX2 ⊢
  obtain ⟨c1, c2, c3⟩ := BX2.out.rules
  have c4 := (c1 0).trans (show _ = some (.int .i64 4) from rfl)
  have c5 := (c1 1).trans (show _ = some (.int .i64 to) from rfl)
  have c6 := (c1 2).trans (show _ = some (.int .i64 fr) from rfl)
  have c7 := (c1 4).trans (show _ = some (.int .i64 n) from rfl)
  clear hb2 HB1 BX1 CT2 hW2 c1
  have CT3 := hide (there_any (W2.alloc (.cells #[.int .i64 fr] 3)) W2.heap.size fr false hf (Blk.new W2 3 #[.int .i64 fr]))
  clear hf
  go_wp2_with fail
  refine CT3.out.mono ?_
  rintro e w3 ⟨rfl, rfl⟩
  have hb3 : Below W2.heap.size W2 (W2.alloc (.cells #[.int .i64 fr] 3)) := (Below.refl _ _).alloc (Nat.le_refl _) _
  have HB3 := hide (HB2.out.trans (hb3.mono HB2.out.size))
  have BX3 := hide (BX2.out.below_ hb3)
  obtain ⟨W3, hW3⟩ : ∃ X, W2.alloc (.cells #[.int .i64 fr] 3) = X := ⟨_, rfl⟩
  rw [hW3] at HB3 BX3 ⊢
  obtain ⟨c1, c2, c3⟩ := BX3.out.rules
  have c4 := (c1 0).trans (show _ = some (.int .i64 4) from rfl)
  have c5 := (c1 1).trans (show _ = some (.int .i64 to) from rfl)
  have c6 := (c1 2).trans (show _ = some (.int .i64 fr) from rfl)
  have c7 := (c1 4).trans (show _ = some (.int .i64 n) from rfl)
  clear hb3 HB2 BX2 CT3 hW3 c1
  go_wp2_with fail
  go_ret
  exact ⟨rfl, HB3.out⟩
set_option maxRecDepth 100000 in
set_option maxHeartbeats 4000000 in
theorem wrong_5_to (ht : badR to = true) : Calls Try.prog 107 #[.agg #[.int .i64 5, .int .i64 to, .int .i64 fr, .int .i64 at_, .int .i64 n]] w fun e w' => e = .returned (.int .i64 2) ∧ Below w.heap.size w w' := by
  have hb0 : Below w.heap.size w (w.alloc (.cells #[.int .i64 5, .int .i64 to, .int .i64 fr, .int .i64 at_, .int .i64 n] 39)) := (Below.refl _ w).alloc (Nat.le_refl _) _
  have BX := hide (Blk.new w 39 #[.int .i64 5, .int .i64 to, .int .i64 fr, .int .i64 at_, .int .i64 n])
  have CK := known_any (w.alloc (.cells #[.int .i64 5, .int .i64 to, .int .i64 fr, .int .i64 at_, .int .i64 n] 39)) ⟨5, to, fr, at_, n⟩
  unfold DoV.cells at CK
  dsimp only at CK
  rw [show (decide ((1 : Int) ≤ 5) && decide ((5 : Int) ≤ 7)) = true from rfl] at CK
  have HCK := hide CK
  have HB0 := hide hb0
  clear CK hb0
  go_enter Try.func107, Try.ntmps107
  go_wp2_with fail
  refine HCK.out.mono ?_
  rintro e w1 ⟨rfl, hb1⟩
  obtain ⟨c1, c2, c3⟩ := (BX.out.below_ hb1).rules
  have c4 := (c1 0).trans (show _ = some (.int .i64 5) from rfl)
  have c5 := (c1 1).trans (show _ = some (.int .i64 to) from rfl)
  have c6 := (c1 2).trans (show _ = some (.int .i64 fr) from rfl)
  have c7 := (c1 4).trans (show _ = some (.int .i64 n) from rfl)
  have HB1 := hide (HB0.out.trans (hb1.mono HB0.out.size))
  have BX1 := hide (BX.out.below_ hb1)
  clear hb1 HB0 HCK BX c1
  have CT2 := hide (there_any (w1.alloc (.cells #[.int .i64 to] 3)) w1.heap.size to true ht (Blk.new w1 3 #[.int .i64 to]))
  clear ht
  go_wp2_with fail
  refine CT2.out.mono ?_
  rintro e w2 ⟨rfl, rfl⟩
  have hb2 : Below w1.heap.size w1 (w1.alloc (.cells #[.int .i64 to] 3)) := (Below.refl _ _).alloc (Nat.le_refl _) _
  have HB2 := hide (HB1.out.trans (hb2.mono HB1.out.size))
  have BX2 := hide (BX1.out.below_ hb2)
  obtain ⟨W2, hW2⟩ : ∃ X, w1.alloc (.cells #[.int .i64 to] 3) = X := ⟨_, rfl⟩
  rw [hW2] at HB2 BX2 ⊢
  obtain ⟨c1, c2, c3⟩ := BX2.out.rules
  have c4 := (c1 0).trans (show _ = some (.int .i64 5) from rfl)
  have c5 := (c1 1).trans (show _ = some (.int .i64 to) from rfl)
  have c6 := (c1 2).trans (show _ = some (.int .i64 fr) from rfl)
  have c7 := (c1 4).trans (show _ = some (.int .i64 n) from rfl)
  clear hb2 HB1 BX1 CT2 hW2 c1
  go_wp2_with fail
  go_ret
  exact ⟨rfl, HB2.out⟩
set_option maxRecDepth 100000 in
set_option maxHeartbeats 4000000 in
theorem wrong_5_fr (ht : badR to = false) (hf : badR fr = true) : Calls Try.prog 107 #[.agg #[.int .i64 5, .int .i64 to, .int .i64 fr, .int .i64 at_, .int .i64 n]] w fun e w' => e = .returned (.int .i64 2) ∧ Below w.heap.size w w' := by
  have hb0 : Below w.heap.size w (w.alloc (.cells #[.int .i64 5, .int .i64 to, .int .i64 fr, .int .i64 at_, .int .i64 n] 39)) := (Below.refl _ w).alloc (Nat.le_refl _) _
  have BX := hide (Blk.new w 39 #[.int .i64 5, .int .i64 to, .int .i64 fr, .int .i64 at_, .int .i64 n])
  have CK := known_any (w.alloc (.cells #[.int .i64 5, .int .i64 to, .int .i64 fr, .int .i64 at_, .int .i64 n] 39)) ⟨5, to, fr, at_, n⟩
  unfold DoV.cells at CK
  dsimp only at CK
  rw [show (decide ((1 : Int) ≤ 5) && decide ((5 : Int) ≤ 7)) = true from rfl] at CK
  have HCK := hide CK
  have HB0 := hide hb0
  clear CK hb0
  go_enter Try.func107, Try.ntmps107
  go_wp2_with fail
  refine HCK.out.mono ?_
  rintro e w1 ⟨rfl, hb1⟩
  obtain ⟨c1, c2, c3⟩ := (BX.out.below_ hb1).rules
  have c4 := (c1 0).trans (show _ = some (.int .i64 5) from rfl)
  have c5 := (c1 1).trans (show _ = some (.int .i64 to) from rfl)
  have c6 := (c1 2).trans (show _ = some (.int .i64 fr) from rfl)
  have c7 := (c1 4).trans (show _ = some (.int .i64 n) from rfl)
  have HB1 := hide (HB0.out.trans (hb1.mono HB0.out.size))
  have BX1 := hide (BX.out.below_ hb1)
  clear hb1 HB0 HCK BX c1
  have CT2 := hide (there_any (w1.alloc (.cells #[.int .i64 to] 3)) w1.heap.size to false ht (Blk.new w1 3 #[.int .i64 to]))
  clear ht
  go_wp2_with fail
  refine CT2.out.mono ?_
  rintro e w2 ⟨rfl, rfl⟩
  have hb2 : Below w1.heap.size w1 (w1.alloc (.cells #[.int .i64 to] 3)) := (Below.refl _ _).alloc (Nat.le_refl _) _
  have HB2 := hide (HB1.out.trans (hb2.mono HB1.out.size))
  have BX2 := hide (BX1.out.below_ hb2)
  obtain ⟨W2, hW2⟩ : ∃ X, w1.alloc (.cells #[.int .i64 to] 3) = X := ⟨_, rfl⟩
  rw [hW2] at HB2 BX2 ⊢
  obtain ⟨c1, c2, c3⟩ := BX2.out.rules
  have c4 := (c1 0).trans (show _ = some (.int .i64 5) from rfl)
  have c5 := (c1 1).trans (show _ = some (.int .i64 to) from rfl)
  have c6 := (c1 2).trans (show _ = some (.int .i64 fr) from rfl)
  have c7 := (c1 4).trans (show _ = some (.int .i64 n) from rfl)
  clear hb2 HB1 BX1 CT2 hW2 c1
  have CT3 := hide (there_any (W2.alloc (.cells #[.int .i64 fr] 3)) W2.heap.size fr true hf (Blk.new W2 3 #[.int .i64 fr]))
  clear hf
  go_wp2_with fail
  refine CT3.out.mono ?_
  rintro e w3 ⟨rfl, rfl⟩
  have hb3 : Below W2.heap.size W2 (W2.alloc (.cells #[.int .i64 fr] 3)) := (Below.refl _ _).alloc (Nat.le_refl _) _
  have HB3 := hide (HB2.out.trans (hb3.mono HB2.out.size))
  have BX3 := hide (BX2.out.below_ hb3)
  obtain ⟨W3, hW3⟩ : ∃ X, W2.alloc (.cells #[.int .i64 fr] 3) = X := ⟨_, rfl⟩
  rw [hW3] at HB3 BX3 ⊢
  obtain ⟨c1, c2, c3⟩ := BX3.out.rules
  have c4 := (c1 0).trans (show _ = some (.int .i64 5) from rfl)
  have c5 := (c1 1).trans (show _ = some (.int .i64 to) from rfl)
  have c6 := (c1 2).trans (show _ = some (.int .i64 fr) from rfl)
  have c7 := (c1 4).trans (show _ = some (.int .i64 n) from rfl)
  clear hb3 HB2 BX2 CT3 hW3 c1
  go_wp2_with fail
  go_ret
  exact ⟨rfl, HB3.out⟩
set_option maxRecDepth 100000 in
set_option maxHeartbeats 4000000 in
theorem wrong_5_ok (ht : badR to = false) (hf : badR fr = false) : Calls Try.prog 107 #[.agg #[.int .i64 5, .int .i64 to, .int .i64 fr, .int .i64 at_, .int .i64 n]] w fun e w' => e = .returned (.int .i64 0) ∧ Below w.heap.size w w' := by
  have hb0 : Below w.heap.size w (w.alloc (.cells #[.int .i64 5, .int .i64 to, .int .i64 fr, .int .i64 at_, .int .i64 n] 39)) := (Below.refl _ w).alloc (Nat.le_refl _) _
  have BX := hide (Blk.new w 39 #[.int .i64 5, .int .i64 to, .int .i64 fr, .int .i64 at_, .int .i64 n])
  have CK := known_any (w.alloc (.cells #[.int .i64 5, .int .i64 to, .int .i64 fr, .int .i64 at_, .int .i64 n] 39)) ⟨5, to, fr, at_, n⟩
  unfold DoV.cells at CK
  dsimp only at CK
  rw [show (decide ((1 : Int) ≤ 5) && decide ((5 : Int) ≤ 7)) = true from rfl] at CK
  have HCK := hide CK
  have HB0 := hide hb0
  clear CK hb0
  go_enter Try.func107, Try.ntmps107
  go_wp2_with fail
  refine HCK.out.mono ?_
  rintro e w1 ⟨rfl, hb1⟩
  obtain ⟨c1, c2, c3⟩ := (BX.out.below_ hb1).rules
  have c4 := (c1 0).trans (show _ = some (.int .i64 5) from rfl)
  have c5 := (c1 1).trans (show _ = some (.int .i64 to) from rfl)
  have c6 := (c1 2).trans (show _ = some (.int .i64 fr) from rfl)
  have c7 := (c1 4).trans (show _ = some (.int .i64 n) from rfl)
  have HB1 := hide (HB0.out.trans (hb1.mono HB0.out.size))
  have BX1 := hide (BX.out.below_ hb1)
  clear hb1 HB0 HCK BX c1
  have CT2 := hide (there_any (w1.alloc (.cells #[.int .i64 to] 3)) w1.heap.size to false ht (Blk.new w1 3 #[.int .i64 to]))
  clear ht
  go_wp2_with fail
  refine CT2.out.mono ?_
  rintro e w2 ⟨rfl, rfl⟩
  have hb2 : Below w1.heap.size w1 (w1.alloc (.cells #[.int .i64 to] 3)) := (Below.refl _ _).alloc (Nat.le_refl _) _
  have HB2 := hide (HB1.out.trans (hb2.mono HB1.out.size))
  have BX2 := hide (BX1.out.below_ hb2)
  obtain ⟨W2, hW2⟩ : ∃ X, w1.alloc (.cells #[.int .i64 to] 3) = X := ⟨_, rfl⟩
  rw [hW2] at HB2 BX2 ⊢
  obtain ⟨c1, c2, c3⟩ := BX2.out.rules
  have c4 := (c1 0).trans (show _ = some (.int .i64 5) from rfl)
  have c5 := (c1 1).trans (show _ = some (.int .i64 to) from rfl)
  have c6 := (c1 2).trans (show _ = some (.int .i64 fr) from rfl)
  have c7 := (c1 4).trans (show _ = some (.int .i64 n) from rfl)
  clear hb2 HB1 BX1 CT2 hW2 c1
  have CT3 := hide (there_any (W2.alloc (.cells #[.int .i64 fr] 3)) W2.heap.size fr false hf (Blk.new W2 3 #[.int .i64 fr]))
  clear hf
  go_wp2_with fail
  refine CT3.out.mono ?_
  rintro e w3 ⟨rfl, rfl⟩
  have hb3 : Below W2.heap.size W2 (W2.alloc (.cells #[.int .i64 fr] 3)) := (Below.refl _ _).alloc (Nat.le_refl _) _
  have HB3 := hide (HB2.out.trans (hb3.mono HB2.out.size))
  have BX3 := hide (BX2.out.below_ hb3)
  obtain ⟨W3, hW3⟩ : ∃ X, W2.alloc (.cells #[.int .i64 fr] 3) = X := ⟨_, rfl⟩
  rw [hW3] at HB3 BX3 ⊢
  obtain ⟨c1, c2, c3⟩ := BX3.out.rules
  have c4 := (c1 0).trans (show _ = some (.int .i64 5) from rfl)
  have c5 := (c1 1).trans (show _ = some (.int .i64 to) from rfl)
  have c6 := (c1 2).trans (show _ = some (.int .i64 fr) from rfl)
  have c7 := (c1 4).trans (show _ = some (.int .i64 n) from rfl)
  clear hb3 HB2 BX2 CT3 hW3 c1
  go_wp2_with fail
  go_ret
  exact ⟨rfl, HB3.out⟩
set_option maxRecDepth 100000 in
set_option maxHeartbeats 4000000 in
theorem wrong_6_to (ht : badR to = true) : Calls Try.prog 107 #[.agg #[.int .i64 6, .int .i64 to, .int .i64 fr, .int .i64 at_, .int .i64 n]] w fun e w' => e = .returned (.int .i64 2) ∧ Below w.heap.size w w' := by
  have hb0 : Below w.heap.size w (w.alloc (.cells #[.int .i64 6, .int .i64 to, .int .i64 fr, .int .i64 at_, .int .i64 n] 39)) := (Below.refl _ w).alloc (Nat.le_refl _) _
  have BX := hide (Blk.new w 39 #[.int .i64 6, .int .i64 to, .int .i64 fr, .int .i64 at_, .int .i64 n])
  have CK := known_any (w.alloc (.cells #[.int .i64 6, .int .i64 to, .int .i64 fr, .int .i64 at_, .int .i64 n] 39)) ⟨6, to, fr, at_, n⟩
  unfold DoV.cells at CK
  dsimp only at CK
  rw [show (decide ((1 : Int) ≤ 6) && decide ((6 : Int) ≤ 7)) = true from rfl] at CK
  have HCK := hide CK
  have HB0 := hide hb0
  clear CK hb0
  go_enter Try.func107, Try.ntmps107
  go_wp2_with fail
  refine HCK.out.mono ?_
  rintro e w1 ⟨rfl, hb1⟩
  obtain ⟨c1, c2, c3⟩ := (BX.out.below_ hb1).rules
  have c4 := (c1 0).trans (show _ = some (.int .i64 6) from rfl)
  have c5 := (c1 1).trans (show _ = some (.int .i64 to) from rfl)
  have c6 := (c1 2).trans (show _ = some (.int .i64 fr) from rfl)
  have c7 := (c1 4).trans (show _ = some (.int .i64 n) from rfl)
  have HB1 := hide (HB0.out.trans (hb1.mono HB0.out.size))
  have BX1 := hide (BX.out.below_ hb1)
  clear hb1 HB0 HCK BX c1
  have CT2 := hide (there_any (w1.alloc (.cells #[.int .i64 to] 3)) w1.heap.size to true ht (Blk.new w1 3 #[.int .i64 to]))
  clear ht
  go_wp2_with fail
  refine CT2.out.mono ?_
  rintro e w2 ⟨rfl, rfl⟩
  have hb2 : Below w1.heap.size w1 (w1.alloc (.cells #[.int .i64 to] 3)) := (Below.refl _ _).alloc (Nat.le_refl _) _
  have HB2 := hide (HB1.out.trans (hb2.mono HB1.out.size))
  have BX2 := hide (BX1.out.below_ hb2)
  obtain ⟨W2, hW2⟩ : ∃ X, w1.alloc (.cells #[.int .i64 to] 3) = X := ⟨_, rfl⟩
  rw [hW2] at HB2 BX2 ⊢
  obtain ⟨c1, c2, c3⟩ := BX2.out.rules
  have c4 := (c1 0).trans (show _ = some (.int .i64 6) from rfl)
  have c5 := (c1 1).trans (show _ = some (.int .i64 to) from rfl)
  have c6 := (c1 2).trans (show _ = some (.int .i64 fr) from rfl)
  have c7 := (c1 4).trans (show _ = some (.int .i64 n) from rfl)
  clear hb2 HB1 BX1 CT2 hW2 c1
  go_wp2_with fail
  go_ret
  exact ⟨rfl, HB2.out⟩
set_option maxRecDepth 100000 in
set_option maxHeartbeats 4000000 in
theorem wrong_6_fr (ht : badR to = false) (hf : badR fr = true) : Calls Try.prog 107 #[.agg #[.int .i64 6, .int .i64 to, .int .i64 fr, .int .i64 at_, .int .i64 n]] w fun e w' => e = .returned (.int .i64 2) ∧ Below w.heap.size w w' := by
  have hb0 : Below w.heap.size w (w.alloc (.cells #[.int .i64 6, .int .i64 to, .int .i64 fr, .int .i64 at_, .int .i64 n] 39)) := (Below.refl _ w).alloc (Nat.le_refl _) _
  have BX := hide (Blk.new w 39 #[.int .i64 6, .int .i64 to, .int .i64 fr, .int .i64 at_, .int .i64 n])
  have CK := known_any (w.alloc (.cells #[.int .i64 6, .int .i64 to, .int .i64 fr, .int .i64 at_, .int .i64 n] 39)) ⟨6, to, fr, at_, n⟩
  unfold DoV.cells at CK
  dsimp only at CK
  rw [show (decide ((1 : Int) ≤ 6) && decide ((6 : Int) ≤ 7)) = true from rfl] at CK
  have HCK := hide CK
  have HB0 := hide hb0
  clear CK hb0
  go_enter Try.func107, Try.ntmps107
  go_wp2_with fail
  refine HCK.out.mono ?_
  rintro e w1 ⟨rfl, hb1⟩
  obtain ⟨c1, c2, c3⟩ := (BX.out.below_ hb1).rules
  have c4 := (c1 0).trans (show _ = some (.int .i64 6) from rfl)
  have c5 := (c1 1).trans (show _ = some (.int .i64 to) from rfl)
  have c6 := (c1 2).trans (show _ = some (.int .i64 fr) from rfl)
  have c7 := (c1 4).trans (show _ = some (.int .i64 n) from rfl)
  have HB1 := hide (HB0.out.trans (hb1.mono HB0.out.size))
  have BX1 := hide (BX.out.below_ hb1)
  clear hb1 HB0 HCK BX c1
  have CT2 := hide (there_any (w1.alloc (.cells #[.int .i64 to] 3)) w1.heap.size to false ht (Blk.new w1 3 #[.int .i64 to]))
  clear ht
  go_wp2_with fail
  refine CT2.out.mono ?_
  rintro e w2 ⟨rfl, rfl⟩
  have hb2 : Below w1.heap.size w1 (w1.alloc (.cells #[.int .i64 to] 3)) := (Below.refl _ _).alloc (Nat.le_refl _) _
  have HB2 := hide (HB1.out.trans (hb2.mono HB1.out.size))
  have BX2 := hide (BX1.out.below_ hb2)
  obtain ⟨W2, hW2⟩ : ∃ X, w1.alloc (.cells #[.int .i64 to] 3) = X := ⟨_, rfl⟩
  rw [hW2] at HB2 BX2 ⊢
  obtain ⟨c1, c2, c3⟩ := BX2.out.rules
  have c4 := (c1 0).trans (show _ = some (.int .i64 6) from rfl)
  have c5 := (c1 1).trans (show _ = some (.int .i64 to) from rfl)
  have c6 := (c1 2).trans (show _ = some (.int .i64 fr) from rfl)
  have c7 := (c1 4).trans (show _ = some (.int .i64 n) from rfl)
  clear hb2 HB1 BX1 CT2 hW2 c1
  have CT3 := hide (there_any (W2.alloc (.cells #[.int .i64 fr] 3)) W2.heap.size fr true hf (Blk.new W2 3 #[.int .i64 fr]))
  clear hf
  go_wp2_with fail
  refine CT3.out.mono ?_
  rintro e w3 ⟨rfl, rfl⟩
  have hb3 : Below W2.heap.size W2 (W2.alloc (.cells #[.int .i64 fr] 3)) := (Below.refl _ _).alloc (Nat.le_refl _) _
  have HB3 := hide (HB2.out.trans (hb3.mono HB2.out.size))
  have BX3 := hide (BX2.out.below_ hb3)
  obtain ⟨W3, hW3⟩ : ∃ X, W2.alloc (.cells #[.int .i64 fr] 3) = X := ⟨_, rfl⟩
  rw [hW3] at HB3 BX3 ⊢
  obtain ⟨c1, c2, c3⟩ := BX3.out.rules
  have c4 := (c1 0).trans (show _ = some (.int .i64 6) from rfl)
  have c5 := (c1 1).trans (show _ = some (.int .i64 to) from rfl)
  have c6 := (c1 2).trans (show _ = some (.int .i64 fr) from rfl)
  have c7 := (c1 4).trans (show _ = some (.int .i64 n) from rfl)
  clear hb3 HB2 BX2 CT3 hW3 c1
  go_wp2_with fail
  go_ret
  exact ⟨rfl, HB3.out⟩
set_option maxRecDepth 100000 in
set_option maxHeartbeats 4000000 in
theorem wrong_6_ok (ht : badR to = false) (hf : badR fr = false) : Calls Try.prog 107 #[.agg #[.int .i64 6, .int .i64 to, .int .i64 fr, .int .i64 at_, .int .i64 n]] w fun e w' => e = .returned (.int .i64 0) ∧ Below w.heap.size w w' := by
  have hb0 : Below w.heap.size w (w.alloc (.cells #[.int .i64 6, .int .i64 to, .int .i64 fr, .int .i64 at_, .int .i64 n] 39)) := (Below.refl _ w).alloc (Nat.le_refl _) _
  have BX := hide (Blk.new w 39 #[.int .i64 6, .int .i64 to, .int .i64 fr, .int .i64 at_, .int .i64 n])
  have CK := known_any (w.alloc (.cells #[.int .i64 6, .int .i64 to, .int .i64 fr, .int .i64 at_, .int .i64 n] 39)) ⟨6, to, fr, at_, n⟩
  unfold DoV.cells at CK
  dsimp only at CK
  rw [show (decide ((1 : Int) ≤ 6) && decide ((6 : Int) ≤ 7)) = true from rfl] at CK
  have HCK := hide CK
  have HB0 := hide hb0
  clear CK hb0
  go_enter Try.func107, Try.ntmps107
  go_wp2_with fail
  refine HCK.out.mono ?_
  rintro e w1 ⟨rfl, hb1⟩
  obtain ⟨c1, c2, c3⟩ := (BX.out.below_ hb1).rules
  have c4 := (c1 0).trans (show _ = some (.int .i64 6) from rfl)
  have c5 := (c1 1).trans (show _ = some (.int .i64 to) from rfl)
  have c6 := (c1 2).trans (show _ = some (.int .i64 fr) from rfl)
  have c7 := (c1 4).trans (show _ = some (.int .i64 n) from rfl)
  have HB1 := hide (HB0.out.trans (hb1.mono HB0.out.size))
  have BX1 := hide (BX.out.below_ hb1)
  clear hb1 HB0 HCK BX c1
  have CT2 := hide (there_any (w1.alloc (.cells #[.int .i64 to] 3)) w1.heap.size to false ht (Blk.new w1 3 #[.int .i64 to]))
  clear ht
  go_wp2_with fail
  refine CT2.out.mono ?_
  rintro e w2 ⟨rfl, rfl⟩
  have hb2 : Below w1.heap.size w1 (w1.alloc (.cells #[.int .i64 to] 3)) := (Below.refl _ _).alloc (Nat.le_refl _) _
  have HB2 := hide (HB1.out.trans (hb2.mono HB1.out.size))
  have BX2 := hide (BX1.out.below_ hb2)
  obtain ⟨W2, hW2⟩ : ∃ X, w1.alloc (.cells #[.int .i64 to] 3) = X := ⟨_, rfl⟩
  rw [hW2] at HB2 BX2 ⊢
  obtain ⟨c1, c2, c3⟩ := BX2.out.rules
  have c4 := (c1 0).trans (show _ = some (.int .i64 6) from rfl)
  have c5 := (c1 1).trans (show _ = some (.int .i64 to) from rfl)
  have c6 := (c1 2).trans (show _ = some (.int .i64 fr) from rfl)
  have c7 := (c1 4).trans (show _ = some (.int .i64 n) from rfl)
  clear hb2 HB1 BX1 CT2 hW2 c1
  have CT3 := hide (there_any (W2.alloc (.cells #[.int .i64 fr] 3)) W2.heap.size fr false hf (Blk.new W2 3 #[.int .i64 fr]))
  clear hf
  go_wp2_with fail
  refine CT3.out.mono ?_
  rintro e w3 ⟨rfl, rfl⟩
  have hb3 : Below W2.heap.size W2 (W2.alloc (.cells #[.int .i64 fr] 3)) := (Below.refl _ _).alloc (Nat.le_refl _) _
  have HB3 := hide (HB2.out.trans (hb3.mono HB2.out.size))
  have BX3 := hide (BX2.out.below_ hb3)
  obtain ⟨W3, hW3⟩ : ∃ X, W2.alloc (.cells #[.int .i64 fr] 3) = X := ⟨_, rfl⟩
  rw [hW3] at HB3 BX3 ⊢
  obtain ⟨c1, c2, c3⟩ := BX3.out.rules
  have c4 := (c1 0).trans (show _ = some (.int .i64 6) from rfl)
  have c5 := (c1 1).trans (show _ = some (.int .i64 to) from rfl)
  have c6 := (c1 2).trans (show _ = some (.int .i64 fr) from rfl)
  have c7 := (c1 4).trans (show _ = some (.int .i64 n) from rfl)
  clear hb3 HB2 BX2 CT3 hW3 c1
  go_wp2_with fail
  go_ret
  exact ⟨rfl, HB3.out⟩
set_option maxRecDepth 100000 in
set_option maxHeartbeats 4000000 in
theorem wrong_7_fr (hf : badR fr = true) : Calls Try.prog 107 #[.agg #[.int .i64 7, .int .i64 to, .int .i64 fr, .int .i64 at_, .int .i64 n]] w fun e w' => e = .returned (.int .i64 2) ∧ Below w.heap.size w w' := by
  have hb0 : Below w.heap.size w (w.alloc (.cells #[.int .i64 7, .int .i64 to, .int .i64 fr, .int .i64 at_, .int .i64 n] 39)) := (Below.refl _ w).alloc (Nat.le_refl _) _
  have BX := hide (Blk.new w 39 #[.int .i64 7, .int .i64 to, .int .i64 fr, .int .i64 at_, .int .i64 n])
  have CK := known_any (w.alloc (.cells #[.int .i64 7, .int .i64 to, .int .i64 fr, .int .i64 at_, .int .i64 n] 39)) ⟨7, to, fr, at_, n⟩
  unfold DoV.cells at CK
  dsimp only at CK
  rw [show (decide ((1 : Int) ≤ 7) && decide ((7 : Int) ≤ 7)) = true from rfl] at CK
  have HCK := hide CK
  have HB0 := hide hb0
  clear CK hb0
  go_enter Try.func107, Try.ntmps107
  go_wp2_with fail
  refine HCK.out.mono ?_
  rintro e w1 ⟨rfl, hb1⟩
  obtain ⟨c1, c2, c3⟩ := (BX.out.below_ hb1).rules
  have c4 := (c1 0).trans (show _ = some (.int .i64 7) from rfl)
  have c5 := (c1 1).trans (show _ = some (.int .i64 to) from rfl)
  have c6 := (c1 2).trans (show _ = some (.int .i64 fr) from rfl)
  have c7 := (c1 4).trans (show _ = some (.int .i64 n) from rfl)
  have HB1 := hide (HB0.out.trans (hb1.mono HB0.out.size))
  have BX1 := hide (BX.out.below_ hb1)
  clear hb1 HB0 HCK BX c1
  have CT3 := hide (there_any (w1.alloc (.cells #[.int .i64 fr] 3)) w1.heap.size fr true hf (Blk.new w1 3 #[.int .i64 fr]))
  clear hf
  go_wp2_with fail
  refine CT3.out.mono ?_
  rintro e w3 ⟨rfl, rfl⟩
  have hb3 : Below w1.heap.size w1 (w1.alloc (.cells #[.int .i64 fr] 3)) := (Below.refl _ _).alloc (Nat.le_refl _) _
  have HB3 := hide (HB1.out.trans (hb3.mono HB1.out.size))
  have BX3 := hide (BX1.out.below_ hb3)
  obtain ⟨W3, hW3⟩ : ∃ X, w1.alloc (.cells #[.int .i64 fr] 3) = X := ⟨_, rfl⟩
  rw [hW3] at HB3 BX3 ⊢
  obtain ⟨c1, c2, c3⟩ := BX3.out.rules
  have c4 := (c1 0).trans (show _ = some (.int .i64 7) from rfl)
  have c5 := (c1 1).trans (show _ = some (.int .i64 to) from rfl)
  have c6 := (c1 2).trans (show _ = some (.int .i64 fr) from rfl)
  have c7 := (c1 4).trans (show _ = some (.int .i64 n) from rfl)
  clear hb3 HB1 BX1 CT3 hW3 c1
  go_wp2_with fail
  go_ret
  exact ⟨rfl, HB3.out⟩
set_option maxRecDepth 100000 in
set_option maxHeartbeats 4000000 in
theorem wrong_7_ok (hf : badR fr = false) : Calls Try.prog 107 #[.agg #[.int .i64 7, .int .i64 to, .int .i64 fr, .int .i64 at_, .int .i64 n]] w fun e w' => e = .returned (.int .i64 0) ∧ Below w.heap.size w w' := by
  have hb0 : Below w.heap.size w (w.alloc (.cells #[.int .i64 7, .int .i64 to, .int .i64 fr, .int .i64 at_, .int .i64 n] 39)) := (Below.refl _ w).alloc (Nat.le_refl _) _
  have BX := hide (Blk.new w 39 #[.int .i64 7, .int .i64 to, .int .i64 fr, .int .i64 at_, .int .i64 n])
  have CK := known_any (w.alloc (.cells #[.int .i64 7, .int .i64 to, .int .i64 fr, .int .i64 at_, .int .i64 n] 39)) ⟨7, to, fr, at_, n⟩
  unfold DoV.cells at CK
  dsimp only at CK
  rw [show (decide ((1 : Int) ≤ 7) && decide ((7 : Int) ≤ 7)) = true from rfl] at CK
  have HCK := hide CK
  have HB0 := hide hb0
  clear CK hb0
  go_enter Try.func107, Try.ntmps107
  go_wp2_with fail
  refine HCK.out.mono ?_
  rintro e w1 ⟨rfl, hb1⟩
  obtain ⟨c1, c2, c3⟩ := (BX.out.below_ hb1).rules
  have c4 := (c1 0).trans (show _ = some (.int .i64 7) from rfl)
  have c5 := (c1 1).trans (show _ = some (.int .i64 to) from rfl)
  have c6 := (c1 2).trans (show _ = some (.int .i64 fr) from rfl)
  have c7 := (c1 4).trans (show _ = some (.int .i64 n) from rfl)
  have HB1 := hide (HB0.out.trans (hb1.mono HB0.out.size))
  have BX1 := hide (BX.out.below_ hb1)
  clear hb1 HB0 HCK BX c1
  have CT3 := hide (there_any (w1.alloc (.cells #[.int .i64 fr] 3)) w1.heap.size fr false hf (Blk.new w1 3 #[.int .i64 fr]))
  clear hf
  go_wp2_with fail
  refine CT3.out.mono ?_
  rintro e w3 ⟨rfl, rfl⟩
  have hb3 : Below w1.heap.size w1 (w1.alloc (.cells #[.int .i64 fr] 3)) := (Below.refl _ _).alloc (Nat.le_refl _) _
  have HB3 := hide (HB1.out.trans (hb3.mono HB1.out.size))
  have BX3 := hide (BX1.out.below_ hb3)
  obtain ⟨W3, hW3⟩ : ∃ X, w1.alloc (.cells #[.int .i64 fr] 3) = X := ⟨_, rfl⟩
  rw [hW3] at HB3 BX3 ⊢
  obtain ⟨c1, c2, c3⟩ := BX3.out.rules
  have c4 := (c1 0).trans (show _ = some (.int .i64 7) from rfl)
  have c5 := (c1 1).trans (show _ = some (.int .i64 to) from rfl)
  have c6 := (c1 2).trans (show _ = some (.int .i64 fr) from rfl)
  have c7 := (c1 4).trans (show _ = some (.int .i64 n) from rfl)
  clear hb3 HB1 BX1 CT3 hW3 c1
  go_wp2_with fail
  go_ret
  exact ⟨rfl, HB3.out⟩
end
theorem wrong_any (w : World) (d : DoV) : Calls Try.prog 107 #[.agg d.cells] w fun e w' => e = .returned (.int .i64 (wrongM d)) ∧ Below w.heap.size w w' := by
  obtain ⟨k, to, fr, at_, n⟩ := d
  unfold DoV.cells wrongM
  dsimp only
  by_cases h1 : k < 1
  · rw [if_pos (.inl h1)]; exact wrong_lo w to fr at_ n k h1
  by_cases h2 : 7 < k
  · rw [if_pos (.inr h2)]; exact wrong_hi w to fr at_ n k h2
  rw [if_neg (fun h => h.elim h1 h2)]
  rcases (show k = 1 ∨ k = 2 ∨ k = 3 ∨ k = 4 ∨ k = 5 ∨ k = 6 ∨ k = 7 from by omega) with rfl | rfl | rfl | rfl | rfl | rfl | rfl
  · cases ht : badR to with
    | true => rw [if_pos (by simp)]; exact wrong_1_to w to fr at_ n ht
    | false =>
      rw [if_neg (by simp)]
      by_cases h3 : n < 0
      · rw [if_pos (by simp [h3])]; exact wrong_1_lo w to fr at_ n ht h3
      by_cases h4 : 4 < n
      · rw [if_pos (by simp [h4])]; exact wrong_1_hi w to fr at_ n ht h4
      · rw [if_neg (by simp; omega), if_neg (by simp)]; exact wrong_1_ok w to fr at_ n ht (by omega) (by omega)
  · cases ht : badR to with
    | true => rw [if_pos (by simp)]; exact wrong_2_to w to fr at_ n ht
    | false =>
      rw [if_neg (by simp), if_neg (by simp)]
      by_cases h3 : n < -4611686018427387904
      · rw [if_pos (by simp [h3])]; exact wrong_2_lo w to fr at_ n ht h3
      by_cases h4 : 4611686018427387903 < n
      · rw [if_pos (by simp [h4])]; exact wrong_2_hi w to fr at_ n ht h4
      · rw [if_neg (by simp; omega)]; exact wrong_2_ok w to fr at_ n ht (by omega) (by omega)
  · cases ht : badR to with
    | true => rw [if_pos (by simp)]; exact wrong_3_to w to fr at_ n ht
    | false =>
      cases hf : badR fr with
      | true => rw [if_pos (by simp)]; exact wrong_3_fr w to fr at_ n ht hf
      | false => rw [if_neg (by simp), if_neg (by simp), if_neg (by simp)]; exact wrong_3_ok w to fr at_ n ht hf
  · cases ht : badR to with
    | true => rw [if_pos (by simp)]; exact wrong_4_to w to fr at_ n ht
    | false =>
      cases hf : badR fr with
      | true => rw [if_pos (by simp)]; exact wrong_4_fr w to fr at_ n ht hf
      | false => rw [if_neg (by simp), if_neg (by simp), if_neg (by simp)]; exact wrong_4_ok w to fr at_ n ht hf
  · cases ht : badR to with
    | true => rw [if_pos (by simp)]; exact wrong_5_to w to fr at_ n ht
    | false =>
      cases hf : badR fr with
      | true => rw [if_pos (by simp)]; exact wrong_5_fr w to fr at_ n ht hf
      | false => rw [if_neg (by simp), if_neg (by simp), if_neg (by simp)]; exact wrong_5_ok w to fr at_ n ht hf
  · cases ht : badR to with
    | true => rw [if_pos (by simp)]; exact wrong_6_to w to fr at_ n ht
    | false =>
      cases hf : badR fr with
      | true => rw [if_pos (by simp)]; exact wrong_6_fr w to fr at_ n ht hf
      | false => rw [if_neg (by simp), if_neg (by simp), if_neg (by simp)]; exact wrong_6_ok w to fr at_ n ht hf
  · cases hf : badR fr with
    | true => rw [if_pos (by simp)]; exact wrong_7_fr w to fr at_ n hf
    | false => rw [if_neg (by simp), if_neg (by simp), if_neg (by simp)]; exact wrong_7_ok w to fr at_ n hf
end Go.Proofs.Ytjphckfbbiehdaa
