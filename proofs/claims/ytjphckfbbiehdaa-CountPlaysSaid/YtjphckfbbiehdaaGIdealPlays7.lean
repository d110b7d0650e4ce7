/- A machine over a memory without end: what it does. '==' on two values. A machine over a memory without end: what it does, on. -/
import Derived.Test.YtjphckfbbiehdaaGIdealPlays6
import Derived.Test.YtjphckfbbiehdaaGIdealPlays1
import Derived.Laws.StructEq
set_option linter.unusedSimpArgs false
set_option linter.unusedVariables false
namespace Go.Proofs.Ytjphckfbbiehdaa
open Go.RowKit

def absI (s : Idl) : MSt := ⟨s.regs, s.ps.map fun p => p.o.fields⟩
/-- What a machine's memory must be like. -/
structure IOk (s : Idl) : Prop where
  m : MOk (absI s)
  n : s.ps.length ≤ 500
def DoOk (Bm Be : Nat) (s : Idl) (w : World) (d : DoV) : Prop :=
  Calls Try.prog 43 #[.pointer (some ⟨Bm, 0, none⟩), .agg d.cells] w fun e w' => ∃ s', e = .returned (stepM d (absI s)).1.val ∧ absI s' = (stepM d (absI s)).2 ∧ Sep (idI Bm Be s).fp w w' [idI Bm Be s']
/-- A register, and the two ways in to the memory. -/
theorem id_cells {Bm Be : Nat} {s : Idl} {w : World} (hP : (idI Bm Be s).P w) (hl : s.regs.length = 8) (r : Nat) (hr : r < 8) : w.cell? ⟨Bm, r * 2, none⟩ = some (.bool (rgA s.regs r).1) ∧ w.cell? ⟨Bm, r * 2 + 1, none⟩ = some (.int .i64 (rgA s.regs r).2) ∧ w.cell? ⟨Bm, 16, none⟩ = some (idF Be) ∧ w.cell? ⟨Be, 0, none⟩ = some (.slice s.As s.ps.length s.c) ∧ Bm < w.heap.size := by
  have hS := (Sep.start hP).flat
  obtain ⟨c1, c2, c3, _⟩ := hS.rules 0 (g := Bm) (t := 113) rfl
  obtain ⟨b1, _, _, _⟩ := hS.rules 1 (g := Be) (t := 185) rfl
  have hrl : r < s.regs.length := by omega
  obtain ⟨m1, m2⟩ := mc_reg (f := idF Be) hrl
  have hg : rgA s.regs (r : Int) = s.regs[r] := by unfold rgA; rw [show ((r : Int)).toNat = r from by omega, List.getD_eq_getElem?_getD, List.getElem?_eq_getElem hrl]; rfl
  rw [hg]
  exact ⟨(c1 _).trans m1, (c1 _).trans m2, (c1 16).trans (mc_if hl), (b1 0).trans rfl, c3⟩
theorem abs_set (s : Idl) (r : Nat) (v : Val) : absI (s.set r v) = ⟨s.regs.set r v, (absI s).objs⟩ := rfl

set_option maxRecDepth 100000 in
set_option maxHeartbeats 8000000 in
theorem do_bad {Bm Be : Nat} {s : Idl} {w : World} (hP : (idI Bm Be s).P w) (d : DoV) (hw : wrongM d ≠ 0) : DoOk Bm Be s w d := by
  unfold DoOk
  obtain ⟨F, hF⟩ : ∃ F, (idI Bm Be s).fp = F := ⟨_, rfl⟩
  obtain ⟨g, hg⟩ : ∃ g, w.heap.size = g := ⟨_, rfl⟩
  have hS0 := ((Sep.start hP).blkAt 39 d.cells (g := g) hg).blkAt 41 #[.int .i64 0, .bool false, .int .i64 0] (g := g + 1) (by simp [hg])
  rw [hF] at hS0 ⊢
  have hst : stepM d (absI s) = (⟨wrongM d, false, 0⟩, absI s) := by unfold stepM; rw [if_pos hw]
  rw [hst]
  unfold OutV.val
  dsimp only
  have CW := wrong_any ((w.alloc (.cells d.cells 39)).alloc (.cells #[.int .i64 0, .bool false, .int .i64 0] 41)) d
  obtain ⟨x, hx⟩ : ∃ x, wrongM d = x := ⟨_, rfl⟩
  rw [hx] at CW hw ⊢
  have HCW := hide CW
  have HS0 := hide hS0
  have y1 : (x != 0) = true := by rw [bne_iff_ne]; exact hw
  obtain ⟨k, to, fr, at_, n⟩ := d
  unfold DoV.cells at HCW HS0 ⊢
  dsimp only at HCW HS0 ⊢
  obtain ⟨a1, a2, a3, a4⟩ := HS0.out.rules 1 (g := g) (t := 39) rfl
  have e0 := (a1 0).trans (show _ = some (.int .i64 k) from rfl)
  have e1 := (a1 1).trans (show _ = some (.int .i64 to) from rfl)
  have e2 := (a1 2).trans (show _ = some (.int .i64 fr) from rfl)
  have e3 := (a1 3).trans (show _ = some (.int .i64 at_) from rfl)
  have e4 := (a1 4).trans (show _ = some (.int .i64 n) from rfl)
  clear CW hS0 hst hw hx hF hP a1 a4
  go_enter Try.func43, Try.ntmps43
  go_wp2_with fail
  refine HCW.out.mono ?_
  rintro e w1 ⟨rfl, hb1⟩
  have hS1 := HS0.out.below hb1
  obtain ⟨b1, b2, b3, b4⟩ := hS1.rules 2 (g := g + 1) (t := 41) rfl
  have f0 := (b1 0).trans (show _ = some (.int .i64 0) from rfl)
  have f1 := (b1 1).trans (show _ = some (.bool false) from rfl)
  have f2 := (b1 2).trans (show _ = some (.int .i64 0) from rfl)
  have HS1 := hide hS1
  clear hb1 hS1 HS0 HCW a2 a3 e0 e1 e2 e3 e4 b1 b4
  go_wp2_with fail
  have hF := ((HS1.out.set_ 2 (g := g + 1) (t := 41) rfl 0 (.int .i64 x)).set_ 2 (g := g + 1) (t := 41) rfl 1 (.bool false)).set_ 2 (g := g + 1) (t := 41) rfl 2 (.int .i64 0)
  refine bodyPost_ret (v := .agg #[.int .i64 x, .bool false, .int .i64 0]) (by simp [results, Try.results43, go_sem, f0, f1, f2]) rfl ⟨s, rfl, rfl, hF.sub (by simp)⟩

set_option maxRecDepth 100000 in
set_option maxHeartbeats 16000000 in
theorem do_2 {Bm Be : Nat} {s : Idl} {w : World} (hP : (idI Bm Be s).P w) (ok : IOk s) (to fr at_ n : Int) (hw : wrongM ⟨2, to, fr, at_, n⟩ = 0) : DoOk Bm Be s w ⟨2, to, fr, at_, n⟩ := by
  unfold DoOk
  obtain ⟨F, hF⟩ : ∃ F, (idI Bm Be s).fp = F := ⟨_, rfl⟩
  obtain ⟨g, hg⟩ : ∃ g, w.heap.size = g := ⟨_, rfl⟩
  have hS0 := ((Sep.start hP).blkAt 39 (DoV.cells ⟨2, to, fr, at_, n⟩) (g := g) hg).blkAt 41 #[.int .i64 0, .bool false, .int .i64 0] (g := g + 1) (by simp [hg])
  rw [hF] at hS0 ⊢
  have h8 : s.regs.length = 8 := ok.m.r8
  have hps : (absI s).objs.length = s.ps.length := by simp [absI]
  have hst : stepM ⟨2, to, fr, at_, n⟩ (absI s) = (⟨0, false, 0⟩, ⟨s.regs.set to.toNat (false, n), (absI s).objs⟩) := by
    unfold stepM
    rw [if_neg (by rw [hw]; simp)]
    unfold stepK
    simp [absI]
  rw [hst]
  unfold OutV.val
  dsimp only
  clear hst
  have HCW := wrong_any ((w.alloc (.cells (DoV.cells ⟨2, to, fr, at_, n⟩) 39)).alloc (.cells #[.int .i64 0, .bool false, .int .i64 0] 41)) ⟨2, to, fr, at_, n⟩
  rw [hw] at HCW
  replace HCW := hide HCW
  obtain ⟨t0, t1⟩ := wrongM_to hw (by show (2 : Int) ≠ 7; decide)
  dsimp only at t0 t1
  obtain ⟨R, rfl⟩ := int_nat t0
  have hR : R < 8 := by omega
  rw [show ((R : Int)).toNat = R from by omega]
  have HS0 := hide hS0
  unfold DoV.cells at HCW HS0 ⊢
  dsimp only at HCW HS0 ⊢
  obtain ⟨a1, a2, a3, a4⟩ := HS0.out.rules 1 (g := g) (t := 39) rfl
  have e0 := (a1 0).trans (show _ = some (.int .i64 2) from rfl)
  have e1 := (a1 1).trans (show _ = some (.int .i64 _) from rfl)
  have e2 := (a1 2).trans (show _ = some (.int .i64 _) from rfl)
  have e3 := (a1 3).trans (show _ = some (.int .i64 _) from rfl)
  have e4 := (a1 4).trans (show _ = some (.int .i64 _) from rfl)
  have HOK := hide ok
  have hbnd := ok.n
  clear hS0 hF hP a1 a4 hw ok hps
  go_enter Try.func43, Try.ntmps43
  go_wp2_with fail
  refine HCW.out.mono ?_
  rintro e w1 ⟨rfl, hb1⟩
  have hS1 := HS0.out.below hb1
  obtain ⟨b1, b2, b3, b4⟩ := hS1.rules 2 (g := g + 1) (t := 41) rfl
  have f0 := (b1 0).trans (show _ = some (.int .i64 0) from rfl)
  have f1 := (b1 1).trans (show _ = some (.bool false) from rfl)
  have f2 := (b1 2).trans (show _ = some (.int .i64 0) from rfl)
  obtain ⟨a1, a2', a3', a4⟩ := hS1.rules 1 (g := g) (t := 39) rfl
  have e0 := (a1 0).trans (show _ = some (.int .i64 2) from rfl)
  have e1 := (a1 1).trans (show _ = some (.int .i64 _) from rfl)
  have e2 := (a1 2).trans (show _ = some (.int .i64 _) from rfl)
  have e3 := (a1 3).trans (show _ = some (.int .i64 _) from rfl)
  have e4 := (a1 4).trans (show _ = some (.int .i64 _) from rfl)
  clear a1 a4 b1 b4
  have HS1 := hide hS1
  clear hb1 HS0 HCW a2 a3
  have CM := hide (mset_any (HS1.out.get 0 rfl) h8 (false, n) hR)
  dsimp only at CM
  clear hS1
  go_wp2_with fail
  refine CM.out.mono ?_
  rintro e w2 ⟨⟨u, rfl⟩, hP2⟩
  have hS2 := HS1.out.call 0 rfl hP2
  obtain ⟨b1, b2, b3, b4⟩ := hS2.rules 2 (g := g + 1) (t := 41) rfl
  have f0 := (b1 0).trans (show _ = some (.int .i64 0) from rfl)
  have f1 := (b1 1).trans (show _ = some (.bool false) from rfl)
  have f2 := (b1 2).trans (show _ = some (.int .i64 0) from rfl)
  obtain ⟨a1, a2', a3', a4⟩ := hS2.rules 1 (g := g) (t := 39) rfl
  have e0 := (a1 0).trans (show _ = some (.int .i64 2) from rfl)
  have e1 := (a1 1).trans (show _ = some (.int .i64 _) from rfl)
  have e2 := (a1 2).trans (show _ = some (.int .i64 _) from rfl)
  have e3 := (a1 3).trans (show _ = some (.int .i64 _) from rfl)
  have e4 := (a1 4).trans (show _ = some (.int .i64 _) from rfl)
  clear a1 a4 b1 b4
  have HS2 := hide hS2
  clear hP2 HS1 CM hS2
  go_wp2_with fail
  have hF := (((HS2.out).set_ 2 (g := g + 1) (t := 41) rfl 0 (.int .i64 0)).set_ 2 (g := g + 1) (t := 41) rfl 1 (.bool false)).set_ 2 (g := g + 1) (t := 41) rfl 2 (.int .i64 0)
  refine bodyPost_ret (v := .agg #[.int .i64 0, .bool false, .int .i64 0]) (by simp [results, Try.results43, go_sem, f0, f1, f2]) rfl ⟨s.set R (false, n), rfl, rfl, hF.sub (by simp)⟩

set_option maxRecDepth 100000 in
set_option maxHeartbeats 16000000 in
theorem do_1 {Bm Be : Nat} {s : Idl} {w : World} (hP : (idI Bm Be s).P w) (ok : IOk s) (to fr at_ n : Int) (hw : wrongM ⟨1, to, fr, at_, n⟩ = 0) : DoOk Bm Be s w ⟨1, to, fr, at_, n⟩ := by
  unfold DoOk
  obtain ⟨F, hF⟩ : ∃ F, (idI Bm Be s).fp = F := ⟨_, rfl⟩
  obtain ⟨g, hg⟩ : ∃ g, w.heap.size = g := ⟨_, rfl⟩
  have hS0 := ((Sep.start hP).blkAt 39 (DoV.cells ⟨1, to, fr, at_, n⟩) (g := g) hg).blkAt 41 #[.int .i64 0, .bool false, .int .i64 0] (g := g + 1) (by simp [hg])
  rw [hF] at hS0 ⊢
  have h8 : s.regs.length = 8 := ok.m.r8
  have hps : (absI s).objs.length = s.ps.length := by simp [absI]
  have hst : stepM ⟨1, to, fr, at_, n⟩ (absI s) = (⟨0, false, 0⟩, ⟨s.regs.set to.toNat (true, s.ps.length), (absI s).objs ++ [zeroVs n.toNat]⟩) := by
    unfold stepM
    rw [if_neg (by rw [hw]; simp)]
    unfold stepK
    simp [absI]
  rw [hst]
  unfold OutV.val
  dsimp only
  clear hst
  have HCW := wrong_any ((w.alloc (.cells (DoV.cells ⟨1, to, fr, at_, n⟩) 39)).alloc (.cells #[.int .i64 0, .bool false, .int .i64 0] 41)) ⟨1, to, fr, at_, n⟩
  rw [hw] at HCW
  replace HCW := hide HCW
  obtain ⟨t0, t1⟩ := wrongM_to hw (by show (1 : Int) ≠ 7; decide)
  dsimp only at t0 t1
  obtain ⟨R, rfl⟩ := int_nat t0
  have hR : R < 8 := by omega
  rw [show ((R : Int)).toNat = R from by omega]
  obtain ⟨n0, n1⟩ := wrongM_n hw rfl
  dsimp only at n0 n1
  obtain ⟨N, rfl⟩ := int_nat n0
  have hN : N ≤ 4 := by omega
  rw [show ((N : Int)).toNat = N from by omega]
  have HS0 := hide hS0
  unfold DoV.cells at HCW HS0 ⊢
  dsimp only at HCW HS0 ⊢
  obtain ⟨a1, a2, a3, a4⟩ := HS0.out.rules 1 (g := g) (t := 39) rfl
  have e0 := (a1 0).trans (show _ = some (.int .i64 1) from rfl)
  have e1 := (a1 1).trans (show _ = some (.int .i64 _) from rfl)
  have e2 := (a1 2).trans (show _ = some (.int .i64 _) from rfl)
  have e3 := (a1 3).trans (show _ = some (.int .i64 _) from rfl)
  have e4 := (a1 4).trans (show _ = some (.int .i64 _) from rfl)
  have HOK := hide ok
  have hbnd := ok.n
  clear hS0 hF hP a1 a4 hw ok hps
  go_enter Try.func43, Try.ntmps43
  go_wp2_with fail
  refine HCW.out.mono ?_
  rintro e w1 ⟨rfl, hb1⟩
  have hS1 := HS0.out.below hb1
  obtain ⟨b1, b2, b3, b4⟩ := hS1.rules 2 (g := g + 1) (t := 41) rfl
  have f0 := (b1 0).trans (show _ = some (.int .i64 0) from rfl)
  have f1 := (b1 1).trans (show _ = some (.bool false) from rfl)
  have f2 := (b1 2).trans (show _ = some (.int .i64 0) from rfl)
  obtain ⟨a1, a2', a3', a4⟩ := hS1.rules 1 (g := g) (t := 39) rfl
  have e0 := (a1 0).trans (show _ = some (.int .i64 1) from rfl)
  have e1 := (a1 1).trans (show _ = some (.int .i64 _) from rfl)
  have e2 := (a1 2).trans (show _ = some (.int .i64 _) from rfl)
  have e3 := (a1 3).trans (show _ = some (.int .i64 _) from rfl)
  have e4 := (a1 4).trans (show _ = some (.int .i64 _) from rfl)
  clear a1 a4 b1 b4
  have HS1 := hide hS1
  clear hb1 HS0 HCW a2 a3
  have hP1 : (idI Bm Be s).P w1 := hS1.get 0 rfl
  obtain ⟨_, _, i1, _, i2⟩ := id_cells hP1 h8 0 (by omega)
  have CN := hide (new_any (w := w1.drew) (hS1.drew.get 0 rfl) (by omega) hN)
  have hinv := meth_new Be
  clear hS1 hP1
  go_wp2_with fail
  go_region_held3 (fun w' => w'.cell? ⟨Bm, 16, none⟩ = some (idF Be) ∧ w'.cell? ⟨g, 4, none⟩ = some (.int .i64 (N : Int))) (go_keep)
    ((go_at_call 268; (with_reducible refine CN.out.mono ?_); rintro e w2 ⟨A, c, B, gn, rfl, hP2⟩; have hS2 := HS1.out.drew.call 0 rfl hP2; obtain ⟨_, _, k1, _, k2⟩ := id_cells (hS2.get 0 rfl) h8 0 (by omega); have k3 : w2.cell? ⟨g, 4, none⟩ = some (.int .i64 (N : Int)) := ((hS2.rules 1 (g := g) (t := 39) rfl).1 4).trans rfl; have HS2 := hide hS2; clear hP2 hS2))
  all_goals
    have hS2 := HS2.out
    obtain ⟨b1, b2, b3, b4⟩ := hS2.rules 2 (g := g + 1) (t := 41) rfl
    have f0 := (b1 0).trans (show _ = some (.int .i64 0) from rfl)
    have f1 := (b1 1).trans (show _ = some (.bool false) from rfl)
    have f2 := (b1 2).trans (show _ = some (.int .i64 0) from rfl)
    obtain ⟨a1, a2', a3', a4⟩ := hS2.rules 1 (g := g) (t := 39) rfl
    have e0 := (a1 0).trans (show _ = some (.int .i64 1) from rfl)
    have e1 := (a1 1).trans (show _ = some (.int .i64 _) from rfl)
    have e2 := (a1 2).trans (show _ = some (.int .i64 _) from rfl)
    have e3 := (a1 3).trans (show _ = some (.int .i64 _) from rfl)
    have e4 := (a1 4).trans (show _ = some (.int .i64 _) from rfl)
    clear a1 a4 b1 b4
    have CM := hide (mset_any (hS2.get 0 rfl) h8 (true, s.ps.length) hR)
    dsimp only at CM
    clear hS2 CN
    go_wp2_with fail
    refine CM.out.mono ?_
    rintro e w3 ⟨⟨u, rfl⟩, hP3⟩
    have hS3 := HS2.out.call 0 rfl hP3
    obtain ⟨b1, b2, b3, b4⟩ := hS3.rules 2 (g := g + 1) (t := 41) rfl
    have f0 := (b1 0).trans (show _ = some (.int .i64 0) from rfl)
    have f1 := (b1 1).trans (show _ = some (.bool false) from rfl)
    have f2 := (b1 2).trans (show _ = some (.int .i64 0) from rfl)
    obtain ⟨a1, a2', a3', a4⟩ := hS3.rules 1 (g := g) (t := 39) rfl
    have e0 := (a1 0).trans (show _ = some (.int .i64 1) from rfl)
    have e1 := (a1 1).trans (show _ = some (.int .i64 _) from rfl)
    have e2 := (a1 2).trans (show _ = some (.int .i64 _) from rfl)
    have e3 := (a1 3).trans (show _ = some (.int .i64 _) from rfl)
    have e4 := (a1 4).trans (show _ = some (.int .i64 _) from rfl)
    clear a1 a4 b1 b4
    have HS3 := hide hS3
    clear hP3 HS2 CM hS3
    go_wp2_with fail
    have hF := (((HS3.out).set_ 2 (g := g + 1) (t := 41) rfl 0 (.int .i64 0)).set_ 2 (g := g + 1) (t := 41) rfl 1 (.bool false)).set_ 2 (g := g + 1) (t := 41) rfl 2 (.int .i64 0)
    refine bodyPost_ret (v := .agg #[.int .i64 0, .bool false, .int .i64 0]) (by simp [results, Try.results43, go_sem, f0, f1, f2]) rfl ⟨(s.new A c B gn N).set R (true, s.ps.length), rfl, by simp [absI, Idl.set, Idl.new], hF.sub (by simp)⟩

set_option maxRecDepth 100000 in
set_option maxHeartbeats 16000000 in
theorem do_3 {Bm Be : Nat} {s : Idl} {w : World} (hP : (idI Bm Be s).P w) (ok : IOk s) (to fr at_ n : Int) (hw : wrongM ⟨3, to, fr, at_, n⟩ = 0) : DoOk Bm Be s w ⟨3, to, fr, at_, n⟩ := by
  unfold DoOk
  obtain ⟨F, hF⟩ : ∃ F, (idI Bm Be s).fp = F := ⟨_, rfl⟩
  obtain ⟨g, hg⟩ : ∃ g, w.heap.size = g := ⟨_, rfl⟩
  have hS0 := ((Sep.start hP).blkAt 39 (DoV.cells ⟨3, to, fr, at_, n⟩) (g := g) hg).blkAt 41 #[.int .i64 0, .bool false, .int .i64 0] (g := g + 1) (by simp [hg])
  rw [hF] at hS0 ⊢
  have h8 : s.regs.length = 8 := ok.m.r8
  have hps : (absI s).objs.length = s.ps.length := by simp [absI]
  have hst : stepM ⟨3, to, fr, at_, n⟩ (absI s) = (⟨0, false, 0⟩, ⟨s.regs.set to.toNat (rgA s.regs fr), (absI s).objs⟩) := by
    unfold stepM
    rw [if_neg (by rw [hw]; simp)]
    unfold stepK
    simp [absI]
  rw [hst]
  unfold OutV.val
  dsimp only
  clear hst
  have HCW := wrong_any ((w.alloc (.cells (DoV.cells ⟨3, to, fr, at_, n⟩) 39)).alloc (.cells #[.int .i64 0, .bool false, .int .i64 0] 41)) ⟨3, to, fr, at_, n⟩
  rw [hw] at HCW
  replace HCW := hide HCW
  obtain ⟨t0, t1⟩ := wrongM_to hw (by show (3 : Int) ≠ 7; decide)
  dsimp only at t0 t1
  obtain ⟨R, rfl⟩ := int_nat t0
  have hR : R < 8 := by omega
  obtain ⟨u0, u1⟩ := wrongM_fr hw (by show (3 : Int) ≠ 1; decide) (by show (3 : Int) ≠ 2; decide)
  dsimp only at u0 u1
  obtain ⟨Q, rfl⟩ := int_nat u0
  have hQ : Q < 8 := by omega
  rw [show ((R : Int)).toNat = R from by omega]
  have HS0 := hide hS0
  unfold DoV.cells at HCW HS0 ⊢
  dsimp only at HCW HS0 ⊢
  obtain ⟨a1, a2, a3, a4⟩ := HS0.out.rules 1 (g := g) (t := 39) rfl
  have e0 := (a1 0).trans (show _ = some (.int .i64 3) from rfl)
  have e1 := (a1 1).trans (show _ = some (.int .i64 _) from rfl)
  have e2 := (a1 2).trans (show _ = some (.int .i64 _) from rfl)
  have e3 := (a1 3).trans (show _ = some (.int .i64 _) from rfl)
  have e4 := (a1 4).trans (show _ = some (.int .i64 _) from rfl)
  have HOK := hide ok
  have hbnd := ok.n
  clear hS0 hF hP a1 a4 hw ok hps
  go_enter Try.func43, Try.ntmps43
  go_wp2_with fail
  refine HCW.out.mono ?_
  rintro e w1 ⟨rfl, hb1⟩
  have hS1 := HS0.out.below hb1
  obtain ⟨b1, b2, b3, b4⟩ := hS1.rules 2 (g := g + 1) (t := 41) rfl
  have f0 := (b1 0).trans (show _ = some (.int .i64 0) from rfl)
  have f1 := (b1 1).trans (show _ = some (.bool false) from rfl)
  have f2 := (b1 2).trans (show _ = some (.int .i64 0) from rfl)
  obtain ⟨a1, a2', a3', a4⟩ := hS1.rules 1 (g := g) (t := 39) rfl
  have e0 := (a1 0).trans (show _ = some (.int .i64 3) from rfl)
  have e1 := (a1 1).trans (show _ = some (.int .i64 _) from rfl)
  have e2 := (a1 2).trans (show _ = some (.int .i64 _) from rfl)
  have e3 := (a1 3).trans (show _ = some (.int .i64 _) from rfl)
  have e4 := (a1 4).trans (show _ = some (.int .i64 _) from rfl)
  clear a1 a4 b1 b4
  have HS1 := hide hS1
  clear hb1 HS0 HCW a2 a3
  have hP1 : (idI Bm Be s).P w1 := hS1.get 0 rfl
  obtain ⟨i3, i4, i1, _, i2⟩ := id_cells hP1 h8 Q hQ
  obtain ⟨v, hv⟩ : ∃ v, rgA s.regs (Q : Int) = v := ⟨_, rfl⟩
  rw [hv] at i3 i4
  have HV := hide hv
  have CM := hide (mset_any (w := w1.drew) (hS1.drew.get 0 rfl) h8 v hR)
  obtain ⟨bv, mv⟩ := v
  dsimp only at i3 i4 CM
  clear hS1 hP1 hv
  go_wp2_with fail
  go_region_law (first
    | (try go_simp
       go_at_call 108
       refine CM.out.mono ?_
       rintro e w2 ⟨⟨u, rfl⟩, hP2⟩))
  all_goals
    have hS2 := HS1.out.drew.call 0 rfl hP2
    obtain ⟨b1, b2, b3, b4⟩ := hS2.rules 2 (g := g + 1) (t := 41) rfl
    have f0 := (b1 0).trans (show _ = some (.int .i64 0) from rfl)
    have f1 := (b1 1).trans (show _ = some (.bool false) from rfl)
    have f2 := (b1 2).trans (show _ = some (.int .i64 0) from rfl)
    obtain ⟨a1, a2', a3', a4⟩ := hS2.rules 1 (g := g) (t := 39) rfl
    have e0 := (a1 0).trans (show _ = some (.int .i64 3) from rfl)
    have e1 := (a1 1).trans (show _ = some (.int .i64 _) from rfl)
    have e2 := (a1 2).trans (show _ = some (.int .i64 _) from rfl)
    have e3 := (a1 3).trans (show _ = some (.int .i64 _) from rfl)
    have e4 := (a1 4).trans (show _ = some (.int .i64 _) from rfl)
    clear a1 a4 b1 b4
    have HS2 := hide hS2
    clear hP2 HS1 CM hS2
    go_wp2_with fail
    have hF := (((HS2.out).set_ 2 (g := g + 1) (t := 41) rfl 0 (.int .i64 0)).set_ 2 (g := g + 1) (t := 41) rfl 1 (.bool false)).set_ 2 (g := g + 1) (t := 41) rfl 2 (.int .i64 0)
    refine bodyPost_ret (v := .agg #[.int .i64 0, .bool false, .int .i64 0]) (by simp [results, Try.results43, go_sem, f0, f1, f2]) rfl ⟨s.set R (bv, mv), rfl, (by rw [HV.out]; rfl), hF.sub (by simp)⟩

theorem ferr_eq {Bm Be : Nat} {s : Idl} {F : Nat → Prop} {W w : World} (h : Sep F W w (idL Bm Be s)) (v : Val) (hv : v.1 = true → 0 ≤ v.2 ∧ v.2 < (s.ps.length : Int)) (at_ : Int) :
    (if v.1 = false then (5 : Int) else if at_ < 0 ∨ ((s.ps.map fun p => (p.o.n : Int)).getD v.2.toNat 0) ≤ at_ then 3 else 0) = fErr (absI s).objs v at_ := by
  unfold fErr
  cases hb : v.1 with
  | false => rfl
  | true =>
    obtain ⟨h0, h1⟩ := hv hb
    have hz : v.2.toNat < s.ps.length := by omega
    have e1 : (s.ps.map fun p => (p.o.n : Int)).getD v.2.toNat 0 = (s.ps[v.2.toNat].o.n : Int) := by
      rw [List.getD_eq_getElem?_getD]; simp [List.getElem?_eq_getElem hz]
    have e2 : obA (absI s).objs v.2 = s.ps[v.2.toNat].o.fields := by
      unfold obA absI
      rw [List.getD_eq_getElem?_getD]; simp [List.getElem?_eq_getElem hz]
    rw [e1, e2, Idl.fields_len h (List.getElem_mem hz)]
theorem ferr_zero {objs : List (List Val)} {v : Val} {at_ : Int} (h : fErr objs v at_ = 0) : v.1 = true ∧ 0 ≤ at_ ∧ at_ < ((obA objs v.2).length : Int) := by
  unfold fErr at h
  split at h
  · omega
  · rename_i h1
    split at h
    · omega
    · exact ⟨by simpa using h1, by omega, by omega⟩
theorem ferr_facts {Bm Be : Nat} {s : Idl} {F : Nat → Prop} {W w : World} (h : Sep F W w (idL Bm Be s)) (ok : IOk s) {bv : Bool} {mv at_ : Int} (hv : bv = true → 0 ≤ mv ∧ mv < (s.ps.length : Int)) (hz : fErr (absI s).objs (bv, mv) at_ = 0) :
    bv = true ∧ ∃ i k : Nat, mv = (i : Int) ∧ at_ = (k : Int) ∧ ∃ hi : i < s.ps.length, k < s.ps[i].o.fields.length ∧ k < s.ps[i].o.n ∧ s.ps[i].o.n ≤ 4 ∧ obA (absI s).objs (i : Int) = s.ps[i].o.fields ∧ (absI s).objs.length = s.ps.length := by
  obtain ⟨h1, h2, h3⟩ := ferr_zero hz
  dsimp only at h1 h3
  obtain ⟨h4, h5⟩ := hv h1
  obtain ⟨i, rfl⟩ := int_nat h4
  obtain ⟨k, rfl⟩ := int_nat h2
  have hi : i < s.ps.length := by omega
  have e2 : obA (absI s).objs (i : Int) = s.ps[i].o.fields := by
    unfold obA absI
    rw [show ((i : Int)).toNat = i from by omega, List.getD_eq_getElem?_getD]; simp [List.getElem?_eq_getElem hi]
  have e3 := Idl.fields_len h (List.getElem_mem hi)
  have e4 := ok.m.f4 s.ps[i].o.fields (by unfold absI; exact List.mem_map.2 ⟨s.ps[i], List.getElem_mem hi, rfl⟩)
  rw [e2] at h3
  exact ⟨h1, i, k, rfl, rfl, hi, by omega, by omega, by omega, e2, by simp [absI]⟩
theorem abs_put (s : Idl) (i k : Nat) (v : Val) (hi : i < s.ps.length) : absI (s.put i k v hi) = ⟨s.regs, (absI s).objs.set i (s.ps[i].o.fields.set k v)⟩ := by
  unfold absI Idl.put
  simp [List.map_set, Po.put]

set_option maxRecDepth 100000 in
set_option maxHeartbeats 16000000 in
theorem do_4 {Bm Be : Nat} {s : Idl} {w : World} (hP : (idI Bm Be s).P w) (ok : IOk s) (to fr at_ n : Int) (hw : wrongM ⟨4, to, fr, at_, n⟩ = 0) : DoOk Bm Be s w ⟨4, to, fr, at_, n⟩ := by
  unfold DoOk
  obtain ⟨F, hF⟩ : ∃ F, (idI Bm Be s).fp = F := ⟨_, rfl⟩
  obtain ⟨g, hg⟩ : ∃ g, w.heap.size = g := ⟨_, rfl⟩
  have hS0 := ((Sep.start hP).blkAt 39 (DoV.cells ⟨4, to, fr, at_, n⟩) (g := g) hg).blkAt 41 #[.int .i64 0, .bool false, .int .i64 0] (g := g + 1) (by simp [hg])
  rw [hF] at hS0 ⊢
  have h8 : s.regs.length = 8 := ok.m.r8
  have hps : (absI s).objs.length = s.ps.length := by simp [absI]
  have hst : stepM ⟨4, to, fr, at_, n⟩ (absI s) = if fErr (absI s).objs (rgA s.regs to) at_ ≠ 0 then (⟨fErr (absI s).objs (rgA s.regs to) at_, false, 0⟩, absI s) else (⟨0, false, 0⟩, ⟨s.regs, (absI s).objs.set (rgA s.regs to).2.toNat ((obA (absI s).objs (rgA s.regs to).2).set at_.toNat (rgA s.regs fr))⟩) := by
    unfold stepM
    rw [if_neg (by rw [hw]; simp)]
    unfold stepK
    dsimp only
    rw [if_neg (show ¬(4 : Int) = 1 by decide), if_neg (show ¬(4 : Int) = 2 by decide), if_neg (show ¬(4 : Int) = 3 by decide), if_pos rfl]
    rfl
  obtain ⟨res, hres⟩ : ∃ r, stepM ⟨4, to, fr, at_, n⟩ (absI s) = r := ⟨_, rfl⟩
  rw [hres] at hst
  rw [hres]
  have HRES := hide hst
  clear hst hres
  have HCW := wrong_any ((w.alloc (.cells (DoV.cells ⟨4, to, fr, at_, n⟩) 39)).alloc (.cells #[.int .i64 0, .bool false, .int .i64 0] 41)) ⟨4, to, fr, at_, n⟩
  rw [hw] at HCW
  replace HCW := hide HCW
  obtain ⟨t0, t1⟩ := wrongM_to hw (by show (4 : Int) ≠ 7; decide)
  dsimp only at t0 t1
  obtain ⟨R, rfl⟩ := int_nat t0
  have hR : R < 8 := by omega
  obtain ⟨u0, u1⟩ := wrongM_fr hw (by show (4 : Int) ≠ 1; decide) (by show (4 : Int) ≠ 2; decide)
  dsimp only at u0 u1
  obtain ⟨Q, rfl⟩ := int_nat u0
  have hQ : Q < 8 := by omega
  have hvv : (rgA s.regs (R : Int)).1 = true → 0 ≤ (rgA s.regs (R : Int)).2 ∧ (rgA s.regs (R : Int)).2 < (s.ps.length : Int) := by rw [← hps]; exact valsOk_getD ok.m.vr _
  have HVV := hide hvv
  have HS0 := hide hS0
  unfold DoV.cells at HCW HS0 ⊢
  dsimp only at HCW HS0 ⊢
  obtain ⟨a1, a2, a3, a4⟩ := HS0.out.rules 1 (g := g) (t := 39) rfl
  have e0 := (a1 0).trans (show _ = some (.int .i64 4) from rfl)
  have e1 := (a1 1).trans (show _ = some (.int .i64 _) from rfl)
  have e2 := (a1 2).trans (show _ = some (.int .i64 _) from rfl)
  have e3 := (a1 3).trans (show _ = some (.int .i64 _) from rfl)
  have e4 := (a1 4).trans (show _ = some (.int .i64 _) from rfl)
  have HOK := hide ok
  have hbnd := ok.n
  clear hS0 hF hP a1 a4 hw ok hps
  go_enter Try.func43, Try.ntmps43
  go_wp2_with fail
  refine HCW.out.mono ?_
  rintro e w1 ⟨rfl, hb1⟩
  have hS1 := HS0.out.below hb1
  obtain ⟨b1, b2, b3, b4⟩ := hS1.rules 2 (g := g + 1) (t := 41) rfl
  have f0 := (b1 0).trans (show _ = some (.int .i64 0) from rfl)
  have f1 := (b1 1).trans (show _ = some (.bool false) from rfl)
  have f2 := (b1 2).trans (show _ = some (.int .i64 0) from rfl)
  obtain ⟨a1, a2', a3', a4⟩ := hS1.rules 1 (g := g) (t := 39) rfl
  have e0 := (a1 0).trans (show _ = some (.int .i64 4) from rfl)
  have e1 := (a1 1).trans (show _ = some (.int .i64 _) from rfl)
  have e2 := (a1 2).trans (show _ = some (.int .i64 _) from rfl)
  have e3 := (a1 3).trans (show _ = some (.int .i64 _) from rfl)
  have e4 := (a1 4).trans (show _ = some (.int .i64 _) from rfl)
  clear a1 a4 b1 b4
  have HS1 := hide hS1
  clear hb1 HS0 HCW a2 a3
  have hP1 : (idI Bm Be s).P w1 := hS1.get 0 rfl
  obtain ⟨i3, i4, i1, _, i2⟩ := id_cells hP1 h8 R hR
  clear hvv
  obtain ⟨v, hv⟩ : ∃ v, rgA s.regs (R : Int) = v := ⟨_, rfl⟩
  have HVD := hide hv
  rw [hv] at i3 i4 HVV
  clear hv hS1 hP1
  obtain ⟨bv, mv⟩ := v
  dsimp only at i3 i4
  go_wp2_with fail
  have q1 : g ≠ w1.heap.size := by omega
  have q2 : Bm ≠ w1.heap.size := by omega
  go_region_held3 (fun w' => w'.cell? ⟨g, 1, none⟩ = some (.int .i64 (R : Int)) ∧ w'.cell? ⟨Bm, R * 2, none⟩ = some (.bool bv) ∧ w'.cell? ⟨Bm, R * 2 + 1, none⟩ = some (.int .i64 mv)) (simp (config := { maxDischargeDepth := 8 }) [*, World.cell?_alloc_some]) (fail)
  have hSv := (HS1.out.blkAt 107 #[.bool bv, .int .i64 mv] (g := w1.heap.size) rfl).drew
  have CF := mfield_any (pre := []) ((Sep.start (hSv.get 0 rfl)).flat) h8 (by omega) (bv, mv) at_ HVV.out
  rw [ferr_eq ((Sep.start (hSv.get 0 rfl)).flat) (bv, mv) HVV.out at_] at CF
  dsimp only at CF
  obtain ⟨x, hx⟩ : ∃ x, fErr (absI s).objs (bv, mv) at_ = x := ⟨_, rfl⟩
  rw [hx] at CF
  have HX := hide hx
  have HCF := hide CF
  obtain ⟨gv, hgv⟩ : ∃ g, w1.heap.size = g := ⟨_, rfl⟩
  obtain ⟨v1, v2, v3, _⟩ := hSv.rules 3 (g := w1.heap.size) (t := 107) rfl
  have v4 := (v1 0).trans (show _ = some (.bool bv) from rfl)
  have v5 := (v1 1).trans (show _ = some (.int .i64 mv) from rfl)
  obtain ⟨b1, b2, b3, b4⟩ := hSv.rules 2 (g := g + 1) (t := 41) rfl
  have f0 := (b1 0).trans (show _ = some (.int .i64 0) from rfl)
  have f1 := (b1 1).trans (show _ = some (.bool false) from rfl)
  have f2 := (b1 2).trans (show _ = some (.int .i64 0) from rfl)
  obtain ⟨a1, a2', a3', a4⟩ := hSv.rules 1 (g := g) (t := 39) rfl
  have e0 := (a1 0).trans (show _ = some (.int .i64 4) from rfl)
  have e1 := (a1 1).trans (show _ = some (.int .i64 _) from rfl)
  have e2 := (a1 2).trans (show _ = some (.int .i64 _) from rfl)
  have e3 := (a1 3).trans (show _ = some (.int .i64 _) from rfl)
  have e4 := (a1 4).trans (show _ = some (.int .i64 _) from rfl)
  clear a1 a4 b1 b4
  have HSV := hide hSv
  clear hSv CF hx v1
  obtain ⟨W, hW⟩ : ∃ W, (w1.alloc (.cells #[.bool bv, .int .i64 mv] 107)).drew = W := ⟨_, rfl⟩
  rw [hW] at HSV HCF v2 v3 v4 v5 f0 f1 f2 e0 e1 e2 e3 e4 ⊢
  clear hW q1 q2 i1 i2 i3 i4
  try rw [hgv] at v4
  try rw [hgv] at v5
  try rw [hgv] at HSV
  try rw [hgv] at v2
  rw [hgv]
  clear hgv
  go_wp2_with fail
  refine HCF.out.mono ?_
  rintro e w3 ⟨rfl, hb3⟩
  have hS3 := HSV.out.below hb3
  obtain ⟨b1, b2, b3, b4⟩ := hS3.rules 2 (g := g + 1) (t := 41) rfl
  have f0 := (b1 0).trans (show _ = some (.int .i64 0) from rfl)
  have f1 := (b1 1).trans (show _ = some (.bool false) from rfl)
  have f2 := (b1 2).trans (show _ = some (.int .i64 0) from rfl)
  obtain ⟨a1, a2', a3', a4⟩ := hS3.rules 1 (g := g) (t := 39) rfl
  have e0 := (a1 0).trans (show _ = some (.int .i64 4) from rfl)
  have e1 := (a1 1).trans (show _ = some (.int .i64 _) from rfl)
  have e2 := (a1 2).trans (show _ = some (.int .i64 _) from rfl)
  have e3 := (a1 3).trans (show _ = some (.int .i64 _) from rfl)
  have e4 := (a1 4).trans (show _ = some (.int .i64 _) from rfl)
  clear a1 a4 b1 b4
  obtain ⟨v1, v2, v3, _⟩ := hS3.rules 3 (g := gv) (t := 107) rfl
  have v4 := (v1 0).trans (show _ = some (.bool bv) from rfl)
  have v5 := (v1 1).trans (show _ = some (.int .i64 mv) from rfl)
  clear hb3 HSV HCF v1
  have HS3 := hide hS3
  clear hS3 HS1
  by_cases hxz : x = 0
  · subst hxz
    obtain ⟨rfl, i, k, rfl, rfl, hi, hk, hkn, h4, hoe, hol⟩ := ferr_facts ((Sep.start (HS3.out.get 0 rfl)).flat) HOK.out HVV.out HX.out
    obtain ⟨i3, i4, i1, i5, i2⟩ := id_cells (HS3.out.get 0 rfl) h8 Q hQ
    obtain ⟨u, hu⟩ : ∃ u, rgA s.regs (Q : Int) = u := ⟨_, rfl⟩
    have HU := hide hu
    rw [hu] at i3 i4
    have hS3d := HS3.out.drew
    have CP := hide (put_any (hS3d.get 0 rfl) (by omega) u hi hk hkn h4)
    have hme := meth_put Be (.slice s.As s.ps.length s.c) w3.drew (by rw [World.cell?_drew]; exact i5)
    obtain ⟨bu, mu⟩ := u
    dsimp only at i3 i4 CP
    clear hS3d hu HOK HVV i5
    go_wp2_with fail
    go_region_held3 (fun w' => w'.cell? ⟨Bm, 16, none⟩ = some (idF Be) ∧ w'.cell? ⟨gv, 1, none⟩ = some (.int .i64 (i : Int)) ∧ w'.cell? ⟨g, 3, none⟩ = some (.int .i64 (k : Int)) ∧ w'.cell? ⟨g, 2, none⟩ = some (.int .i64 (Q : Int)) ∧ w'.cell? ⟨Bm, Q * 2, none⟩ = some (.bool bu) ∧ w'.cell? ⟨Bm, Q * 2 + 1, none⟩ = some (.int .i64 mu)) (go_keep)
      ((go_at_call 266; (with_reducible refine CP.out.mono ?_); rintro e w4 ⟨⟨u, rfl⟩, hP4⟩; have hS4 := HS3.out.drew.call 0 rfl hP4; obtain ⟨k3, k4, k1, _, k2⟩ := id_cells (hS4.get 0 rfl) (show (s.put i k (bu, mu) hi).regs.length = 8 from h8) Q hQ; rw [show rgA (s.put i k (bu, mu) hi).regs (Q : Int) = (bu, mu) from HU.out] at k3 k4; obtain ⟨a1, _, a3, _⟩ := hS4.rules 1 (g := g) (t := 39) rfl; have k5 := (a1 2).trans (show _ = some (.int .i64 (Q : Int)) from rfl); have k6 := (a1 3).trans (show _ = some (.int .i64 (k : Int)) from rfl); obtain ⟨c1, _, c3, _⟩ := hS4.rules 3 (g := gv) (t := 107) rfl; have k7 := (c1 1).trans (show _ = some (.int .i64 (i : Int)) from rfl); have HS4 := hide hS4; clear hP4 hS4 a1 c1))
    all_goals
      have hS4 := HS4.out
      obtain ⟨b1, b2, b3, b4⟩ := hS4.rules 2 (g := g + 1) (t := 41) rfl
      have f0 := (b1 0).trans (show _ = some (.int .i64 0) from rfl)
      have f1 := (b1 1).trans (show _ = some (.bool false) from rfl)
      have f2 := (b1 2).trans (show _ = some (.int .i64 0) from rfl)
      clear hS4 b1 b4
      go_wp2_with fail
      have hr := HRES.out
      rw [HVD.out, if_neg (by rw [HX.out]; simp), HU.out] at hr
      dsimp only at hr
      rw [hoe, show ((i : Int)).toNat = i from by omega, show ((k : Int)).toNat = k from by omega, ← abs_put s i k (bu, mu) hi] at hr
      subst hr
      have hF := (((HS4.out).set_ 2 (g := g + 1) (t := 41) rfl 0 (.int .i64 0)).set_ 2 (g := g + 1) (t := 41) rfl 1 (.bool false)).set_ 2 (g := g + 1) (t := 41) rfl 2 (.int .i64 0)
      refine bodyPost_ret (v := .agg #[.int .i64 0, .bool false, .int .i64 0]) (by simp [results, Try.results43, go_sem, f0, f1, f2]) rfl ⟨(s.put i k (bu, mu) hi), rfl, rfl, hF.sub (by simp)⟩
  · have y1 : (x != 0) = true := by rw [bne_iff_ne]; exact hxz
    go_wp2_with fail
    have hr := HRES.out
    rw [HVD.out, HX.out, if_pos hxz] at hr
    subst hr
    have hF := (((HS3.out).set_ 2 (g := g + 1) (t := 41) rfl 0 (.int .i64 x)).set_ 2 (g := g + 1) (t := 41) rfl 1 (.bool false)).set_ 2 (g := g + 1) (t := 41) rfl 2 (.int .i64 0)
    refine bodyPost_ret (v := .agg #[.int .i64 x, .bool false, .int .i64 0]) (by simp [results, Try.results43, go_sem, f0, f1, f2]) rfl ⟨s, rfl, rfl, hF.sub (by simp)⟩
end Go.Proofs.Ytjphckfbbiehdaa

namespace Go.Proofs.Ytjphckfbbiehdaa
open Go.RowKit
theorem eq_val (w : World) (a b : Bool) (m n : Int) : (binOp .eql 107 (.agg #[.bool a, .int .i64 m]) (.agg #[.bool b, .int .i64 n])).run Try.prog w = .ok (.bool (decide (((a, m) : Val) = (b, n)))) w := by
  have h1 : Try.prog.underlying 107 = some (.struct (Try.prog.fieldsOf 107)) := by kernel_rfl
  have h2 : Try.prog.stoodInHeld 107 = false := by kernel_rfl
  have h3 : Try.prog.underlying 4 = some .bool := by kernel_rfl
  have h4 : Try.prog.underlying 2 = some (.int .i64) := by kernel_rfl
  rw [run_eql_struct, run_equalIn_agg _ _ _ _ _ h1 h2]
  have h5 : (Try.prog.fieldsOf 107).toList = [(Try.prog.fieldsOf 107).toList[0]!, (Try.prog.fieldsOf 107).toList[1]!] := by kernel_rfl
  have n1 : ((Try.prog.fieldsOf 107).toList[0]!).name = "Ref" := by kernel_rfl
  have n2 : ((Try.prog.fieldsOf 107).toList[0]!).type = 4 := by kernel_rfl
  have n3 : ((Try.prog.fieldsOf 107).toList[0]!).offset = 0 := by kernel_rfl
  have n4 : ((Try.prog.fieldsOf 107).toList[1]!).name = "N" := by kernel_rfl
  have n5 : ((Try.prog.fieldsOf 107).toList[1]!).type = 2 := by kernel_rfl
  have n6 : ((Try.prog.fieldsOf 107).toList[1]!).offset = 1 := by kernel_rfl
  rw [h5]
  obtain ⟨f1, hf1⟩ : ∃ f, (Try.prog.fieldsOf 107).toList[0]! = f := ⟨_, rfl⟩
  obtain ⟨f2, hf2⟩ : ∃ f, (Try.prog.fieldsOf 107).toList[1]! = f := ⟨_, rfl⟩
  rw [hf1] at n1 n2 n3 ⊢
  rw [hf2] at n4 n5 n6 ⊢
  have p1 : ∀ x y, (part 4 #[x, y] 0).run Try.prog w = .ok x w := fun x y => by kernel_rfl
  have p2 : ∀ x y, (part 2 #[x, y] 1).run Try.prog w = .ok y w := fun x y => by kernel_rfl
  simp only [Op.eqFields, n1, n2, n3, n4, n5, n6, ne_eq, Sem.run_ite, Sem.run_bind, p1, p2, Result.andThen_ok, run_equalIn_bool' w _ _ _ _ h3, run_equalIn_int w _ _ _ _ _ _ h4]
  cases a <;> cases b <;> simp <;> by_cases h : m = n <;> simp [h]
theorem guard_val (w : World) (x y : Operand) (a b : Bool) (m n : Int) : (eqGuard .eql 107 x y (.agg #[.bool a, .int .i64 m]) (.agg #[.bool b, .int .i64 n])).run Try.prog w = .ok () w :=
  run_eqGuard_agg w .eql _ x y _ _ (by kernel_rfl)
end Go.Proofs.Ytjphckfbbiehdaa

namespace Go.Proofs.Ytjphckfbbiehdaa
open Go.RowKit
theorem obA_abs {s : Idl} {i : Nat} (hi : i < s.ps.length) : obA (absI s).objs (i : Int) = s.ps[i].o.fields := by
  unfold obA absI
  rw [show ((i : Int)).toNat = i from by omega, List.getD_eq_getElem?_getD]; simp [List.getElem?_eq_getElem hi]

set_option maxRecDepth 100000 in
set_option maxHeartbeats 16000000 in
theorem do_5 {Bm Be : Nat} {s : Idl} {w : World} (hP : (idI Bm Be s).P w) (ok : IOk s) (to fr at_ n : Int) (hw : wrongM ⟨5, to, fr, at_, n⟩ = 0) : DoOk Bm Be s w ⟨5, to, fr, at_, n⟩ := by
  unfold DoOk
  obtain ⟨F, hF⟩ : ∃ F, (idI Bm Be s).fp = F := ⟨_, rfl⟩
  obtain ⟨g, hg⟩ : ∃ g, w.heap.size = g := ⟨_, rfl⟩
  have hS0 := ((Sep.start hP).blkAt 39 (DoV.cells ⟨5, to, fr, at_, n⟩) (g := g) hg).blkAt 41 #[.int .i64 0, .bool false, .int .i64 0] (g := g + 1) (by simp [hg])
  rw [hF] at hS0 ⊢
  have h8 : s.regs.length = 8 := ok.m.r8
  have hps : (absI s).objs.length = s.ps.length := by simp [absI]
  have hst : stepM ⟨5, to, fr, at_, n⟩ (absI s) = if fErr (absI s).objs (rgA s.regs fr) at_ ≠ 0 then (⟨fErr (absI s).objs (rgA s.regs fr) at_, false, 0⟩, absI s) else (⟨0, false, 0⟩, ⟨s.regs.set to.toNat ((obA (absI s).objs (rgA s.regs fr).2).getD at_.toNat (false, 0)), (absI s).objs⟩) := by
    unfold stepM
    rw [if_neg (by rw [hw]; simp)]
    unfold stepK
    dsimp only
    rw [if_neg (show ¬(5 : Int) = 1 by decide), if_neg (show ¬(5 : Int) = 2 by decide), if_neg (show ¬(5 : Int) = 3 by decide), if_neg (show ¬(5 : Int) = 4 by decide), if_pos rfl]
    rfl
  obtain ⟨res, hres⟩ : ∃ r, stepM ⟨5, to, fr, at_, n⟩ (absI s) = r := ⟨_, rfl⟩
  rw [hres] at hst
  rw [hres]
  have HRES := hide hst
  clear hst hres
  have HCW := wrong_any ((w.alloc (.cells (DoV.cells ⟨5, to, fr, at_, n⟩) 39)).alloc (.cells #[.int .i64 0, .bool false, .int .i64 0] 41)) ⟨5, to, fr, at_, n⟩
  rw [hw] at HCW
  replace HCW := hide HCW
  obtain ⟨t0, t1⟩ := wrongM_to hw (by show (5 : Int) ≠ 7; decide)
  dsimp only at t0 t1
  obtain ⟨R, rfl⟩ := int_nat t0
  have hR : R < 8 := by omega
  obtain ⟨u0, u1⟩ := wrongM_fr hw (by show (5 : Int) ≠ 1; decide) (by show (5 : Int) ≠ 2; decide)
  dsimp only at u0 u1
  obtain ⟨Q, rfl⟩ := int_nat u0
  have hQ : Q < 8 := by omega
  have hvv : (rgA s.regs (Q : Int)).1 = true → 0 ≤ (rgA s.regs (Q : Int)).2 ∧ (rgA s.regs (Q : Int)).2 < (s.ps.length : Int) := by rw [← hps]; exact valsOk_getD ok.m.vr _
  have HVV := hide hvv
  have HS0 := hide hS0
  unfold DoV.cells at HCW HS0 ⊢
  dsimp only at HCW HS0 ⊢
  obtain ⟨a1, a2, a3, a4⟩ := HS0.out.rules 1 (g := g) (t := 39) rfl
  have e0 := (a1 0).trans (show _ = some (.int .i64 5) from rfl)
  have e1 := (a1 1).trans (show _ = some (.int .i64 _) from rfl)
  have e2 := (a1 2).trans (show _ = some (.int .i64 _) from rfl)
  have e3 := (a1 3).trans (show _ = some (.int .i64 _) from rfl)
  have e4 := (a1 4).trans (show _ = some (.int .i64 _) from rfl)
  have HOK := hide ok
  have hbnd := ok.n
  clear hS0 hF hP a1 a4 hw ok hps
  go_enter Try.func43, Try.ntmps43
  go_wp2_with fail
  refine HCW.out.mono ?_
  rintro e w1 ⟨rfl, hb1⟩
  have hS1 := HS0.out.below hb1
  obtain ⟨b1, b2, b3, b4⟩ := hS1.rules 2 (g := g + 1) (t := 41) rfl
  have f0 := (b1 0).trans (show _ = some (.int .i64 0) from rfl)
  have f1 := (b1 1).trans (show _ = some (.bool false) from rfl)
  have f2 := (b1 2).trans (show _ = some (.int .i64 0) from rfl)
  obtain ⟨a1, a2', a3', a4⟩ := hS1.rules 1 (g := g) (t := 39) rfl
  have e0 := (a1 0).trans (show _ = some (.int .i64 5) from rfl)
  have e1 := (a1 1).trans (show _ = some (.int .i64 _) from rfl)
  have e2 := (a1 2).trans (show _ = some (.int .i64 _) from rfl)
  have e3 := (a1 3).trans (show _ = some (.int .i64 _) from rfl)
  have e4 := (a1 4).trans (show _ = some (.int .i64 _) from rfl)
  clear a1 a4 b1 b4
  have HS1 := hide hS1
  clear hb1 HS0 HCW a2 a3
  have hP1 : (idI Bm Be s).P w1 := hS1.get 0 rfl
  obtain ⟨i3, i4, i1, _, i2⟩ := id_cells hP1 h8 Q hQ
  clear hvv
  obtain ⟨v, hv⟩ : ∃ v, rgA s.regs (Q : Int) = v := ⟨_, rfl⟩
  have HVD := hide hv
  rw [hv] at i3 i4 HVV
  clear hv hS1 hP1
  obtain ⟨bv, mv⟩ := v
  dsimp only at i3 i4
  go_wp2_with fail
  have q1 : g ≠ w1.heap.size := by omega
  have q2 : Bm ≠ w1.heap.size := by omega
  go_region_held3 (fun w' => w'.cell? ⟨g, 2, none⟩ = some (.int .i64 (Q : Int)) ∧ w'.cell? ⟨Bm, Q * 2, none⟩ = some (.bool bv) ∧ w'.cell? ⟨Bm, Q * 2 + 1, none⟩ = some (.int .i64 mv)) (simp (config := { maxDischargeDepth := 8 }) [*, World.cell?_alloc_some]) (fail)
  have hSv := (HS1.out.blkAt 107 #[.bool bv, .int .i64 mv] (g := w1.heap.size) rfl).drew
  have CF := mfield_any (pre := []) ((Sep.start (hSv.get 0 rfl)).flat) h8 (by omega) (bv, mv) at_ HVV.out
  rw [ferr_eq ((Sep.start (hSv.get 0 rfl)).flat) (bv, mv) HVV.out at_] at CF
  dsimp only at CF
  obtain ⟨x, hx⟩ : ∃ x, fErr (absI s).objs (bv, mv) at_ = x := ⟨_, rfl⟩
  rw [hx] at CF
  have HX := hide hx
  have HCF := hide CF
  obtain ⟨gv, hgv⟩ : ∃ g, w1.heap.size = g := ⟨_, rfl⟩
  obtain ⟨v1, v2, v3, _⟩ := hSv.rules 3 (g := w1.heap.size) (t := 107) rfl
  have v4 := (v1 0).trans (show _ = some (.bool bv) from rfl)
  have v5 := (v1 1).trans (show _ = some (.int .i64 mv) from rfl)
  obtain ⟨b1, b2, b3, b4⟩ := hSv.rules 2 (g := g + 1) (t := 41) rfl
  have f0 := (b1 0).trans (show _ = some (.int .i64 0) from rfl)
  have f1 := (b1 1).trans (show _ = some (.bool false) from rfl)
  have f2 := (b1 2).trans (show _ = some (.int .i64 0) from rfl)
  obtain ⟨a1, a2', a3', a4⟩ := hSv.rules 1 (g := g) (t := 39) rfl
  have e0 := (a1 0).trans (show _ = some (.int .i64 5) from rfl)
  have e1 := (a1 1).trans (show _ = some (.int .i64 _) from rfl)
  have e2 := (a1 2).trans (show _ = some (.int .i64 _) from rfl)
  have e3 := (a1 3).trans (show _ = some (.int .i64 _) from rfl)
  have e4 := (a1 4).trans (show _ = some (.int .i64 _) from rfl)
  clear a1 a4 b1 b4
  have HSV := hide hSv
  clear hSv CF hx v1
  obtain ⟨W, hW⟩ : ∃ W, (w1.alloc (.cells #[.bool bv, .int .i64 mv] 107)).drew = W := ⟨_, rfl⟩
  rw [hW] at HSV HCF v2 v3 v4 v5 f0 f1 f2 e0 e1 e2 e3 e4 ⊢
  clear hW q1 q2 i1 i2 i3 i4
  try rw [hgv] at v4
  try rw [hgv] at v5
  try rw [hgv] at HSV
  try rw [hgv] at v2
  rw [hgv]
  clear hgv
  go_wp2_with fail
  refine HCF.out.mono ?_
  rintro e w3 ⟨rfl, hb3⟩
  have hS3 := HSV.out.below hb3
  obtain ⟨b1, b2, b3, b4⟩ := hS3.rules 2 (g := g + 1) (t := 41) rfl
  have f0 := (b1 0).trans (show _ = some (.int .i64 0) from rfl)
  have f1 := (b1 1).trans (show _ = some (.bool false) from rfl)
  have f2 := (b1 2).trans (show _ = some (.int .i64 0) from rfl)
  obtain ⟨a1, a2', a3', a4⟩ := hS3.rules 1 (g := g) (t := 39) rfl
  have e0 := (a1 0).trans (show _ = some (.int .i64 5) from rfl)
  have e1 := (a1 1).trans (show _ = some (.int .i64 _) from rfl)
  have e2 := (a1 2).trans (show _ = some (.int .i64 _) from rfl)
  have e3 := (a1 3).trans (show _ = some (.int .i64 _) from rfl)
  have e4 := (a1 4).trans (show _ = some (.int .i64 _) from rfl)
  clear a1 a4 b1 b4
  obtain ⟨v1, v2, v3, _⟩ := hS3.rules 3 (g := gv) (t := 107) rfl
  have v4 := (v1 0).trans (show _ = some (.bool bv) from rfl)
  have v5 := (v1 1).trans (show _ = some (.int .i64 mv) from rfl)
  clear hb3 HSV HCF v1
  have HS3 := hide hS3
  clear hS3 HS1
  by_cases hxz : x = 0
  · subst hxz
    obtain ⟨rfl, i, k, rfl, rfl, hi, hk, hkn, h4, hoe, hol⟩ := ferr_facts ((Sep.start (HS3.out.get 0 rfl)).flat) HOK.out HVV.out HX.out
    obtain ⟨i3, i4, i1, i5, i2⟩ := id_cells (HS3.out.get 0 rfl) h8 Q hQ
    have hS3d := HS3.out.drew
    obtain ⟨u, hu⟩ : ∃ u, s.ps[i].o.fields[k] = u := ⟨_, rfl⟩
    have CP : Hid (Calls Try.prog 262 #[.slice s.As s.ps.length s.c, .int .i64 i, .int .i64 k] w3.drew fun e w' => e = .returned (.agg #[.bool u.1, .int .i64 u.2]) ∧ Below w3.drew.heap.size w3.drew w') := hide (by rw [← hu]; exact get_any (pre := []) ((Sep.start (hS3d.get 0 rfl)).flat) (by omega) hi hk hkn h4)
    have HU := hide (show s.ps[i].o.fields[k]? = some u from (List.getElem?_eq_getElem hk).trans (congrArg some hu))
    have CMG := hide (fun (W : World) (h : (idI Bm Be s).P W) => mset_any h h8 u hR)
    obtain ⟨bu, mu⟩ := u
    have hme := meth_get Be (.slice s.As s.ps.length s.c) w3.drew (by rw [World.cell?_drew]; exact i5)
    dsimp only at CP CMG
    clear hS3d hu HOK HVV i5 i3 i4
    go_wp2_with fail
    go_region_held3 (fun w' => w'.cell? ⟨Bm, 16, none⟩ = some (idF Be) ∧ w'.cell? ⟨gv, 1, none⟩ = some (.int .i64 (i : Int)) ∧ w'.cell? ⟨g, 3, none⟩ = some (.int .i64 (k : Int)) ∧ w'.cell? ⟨g, 1, none⟩ = some (.int .i64 (R : Int))) (go_keep)
      (first
       | (go_at_call 262; (with_reducible refine CP.out.mono ?_); rintro e w4 ⟨rfl, hb4⟩; have hS4 := HS3.out.drew.below hb4; obtain ⟨_, _, k1, _, k2⟩ := id_cells (hS4.get 0 rfl) h8 Q hQ; obtain ⟨a1, _, a3, _⟩ := hS4.rules 1 (g := g) (t := 39) rfl; have k5 := (a1 1).trans (show _ = some (.int .i64 (R : Int)) from rfl); have k6 := (a1 3).trans (show _ = some (.int .i64 (k : Int)) from rfl); obtain ⟨c1, _, c3, _⟩ := hS4.rules 3 (g := gv) (t := 107) rfl; have k7 := (c1 1).trans (show _ = some (.int .i64 (i : Int)) from rfl); have CM := hide (CMG.out _ (hS4.get 0 rfl)); have HS4 := hide hS4; clear hb4 hS4 a1 c1 hme)
       | (go_at_call 108; (with_reducible refine CM.out.mono ?_); rintro e w5 ⟨⟨u, rfl⟩, hP5⟩; have hS5 := HS4.out.call 0 rfl hP5; obtain ⟨_, _, k1, _, k2⟩ := id_cells (hS5.get 0 rfl) (show (s.set R (bu, mu)).regs.length = 8 from by show (s.regs.set R (bu, mu)).length = 8; simp [h8]) Q hQ; obtain ⟨a1, _, a3, _⟩ := hS5.rules 1 (g := g) (t := 39) rfl; have k5 := (a1 1).trans (show _ = some (.int .i64 (R : Int)) from rfl); have k6 := (a1 3).trans (show _ = some (.int .i64 (k : Int)) from rfl); obtain ⟨c1, _, c3, _⟩ := hS5.rules 3 (g := gv) (t := 107) rfl; have k7 := (c1 1).trans (show _ = some (.int .i64 (i : Int)) from rfl); have HS5 := hide hS5; clear hP5 hS5 a1 c1))
    all_goals
      have hS5 := HS5.out
      obtain ⟨b1, b2, b3, b4⟩ := hS5.rules 2 (g := g + 1) (t := 41) rfl
      have f0 := (b1 0).trans (show _ = some (.int .i64 0) from rfl)
      have f1 := (b1 1).trans (show _ = some (.bool false) from rfl)
      have f2 := (b1 2).trans (show _ = some (.int .i64 0) from rfl)
      clear hS5 b1 b4
      go_wp2_with fail
      have hr := HRES.out
      rw [HVD.out, if_neg (by rw [HX.out]; simp)] at hr
      dsimp only at hr
      rw [hoe, show ((R : Int)).toNat = R from by omega, show ((k : Int)).toNat = k from by omega, List.getD_eq_getElem?_getD, HU.out, Option.getD_some] at hr
      subst hr
      have hF := (((HS5.out).set_ 2 (g := g + 1) (t := 41) rfl 0 (.int .i64 0)).set_ 2 (g := g + 1) (t := 41) rfl 1 (.bool false)).set_ 2 (g := g + 1) (t := 41) rfl 2 (.int .i64 0)
      refine bodyPost_ret (v := .agg #[.int .i64 0, .bool false, .int .i64 0]) (by simp [results, Try.results43, go_sem, f0, f1, f2]) rfl ⟨(s.set R (bu, mu)), rfl, rfl, hF.sub (by simp)⟩
  · have y1 : (x != 0) = true := by rw [bne_iff_ne]; exact hxz
    go_wp2_with fail
    have hr := HRES.out
    rw [HVD.out, HX.out, if_pos hxz] at hr
    subst hr
    have hF := (((HS3.out).set_ 2 (g := g + 1) (t := 41) rfl 0 (.int .i64 x)).set_ 2 (g := g + 1) (t := 41) rfl 1 (.bool false)).set_ 2 (g := g + 1) (t := 41) rfl 2 (.int .i64 0)
    refine bodyPost_ret (v := .agg #[.int .i64 x, .bool false, .int .i64 0]) (by simp [results, Try.results43, go_sem, f0, f1, f2]) rfl ⟨s, rfl, rfl, hF.sub (by simp)⟩

set_option maxRecDepth 100000 in
set_option maxHeartbeats 16000000 in
theorem do_6 {Bm Be : Nat} {s : Idl} {w : World} (hP : (idI Bm Be s).P w) (ok : IOk s) (to fr at_ n : Int) (hw : wrongM ⟨6, to, fr, at_, n⟩ = 0) : DoOk Bm Be s w ⟨6, to, fr, at_, n⟩ := by
  unfold DoOk
  obtain ⟨F, hF⟩ : ∃ F, (idI Bm Be s).fp = F := ⟨_, rfl⟩
  obtain ⟨g, hg⟩ : ∃ g, w.heap.size = g := ⟨_, rfl⟩
  have hS0 := ((Sep.start hP).blkAt 39 (DoV.cells ⟨6, to, fr, at_, n⟩) (g := g) hg).blkAt 41 #[.int .i64 0, .bool false, .int .i64 0] (g := g + 1) (by simp [hg])
  rw [hF] at hS0 ⊢
  have h8 : s.regs.length = 8 := ok.m.r8
  have hps : (absI s).objs.length = s.ps.length := by simp [absI]
  have hst : stepM ⟨6, to, fr, at_, n⟩ (absI s) = (⟨0, false, if rgA s.regs to = rgA s.regs fr then 1 else 0⟩, absI s) := by
    unfold stepM
    rw [if_neg (by rw [hw]; simp)]
    unfold stepK
    dsimp only
    rw [if_neg (show ¬(6 : Int) = 1 by decide), if_neg (show ¬(6 : Int) = 2 by decide), if_neg (show ¬(6 : Int) = 3 by decide), if_neg (show ¬(6 : Int) = 4 by decide), if_neg (show ¬(6 : Int) = 5 by decide), if_pos rfl]
    rfl
  obtain ⟨res, hres⟩ : ∃ r, stepM ⟨6, to, fr, at_, n⟩ (absI s) = r := ⟨_, rfl⟩
  rw [hres] at hst
  rw [hres]
  have HRES := hide hst
  clear hst hres
  have HCW := wrong_any ((w.alloc (.cells (DoV.cells ⟨6, to, fr, at_, n⟩) 39)).alloc (.cells #[.int .i64 0, .bool false, .int .i64 0] 41)) ⟨6, to, fr, at_, n⟩
  rw [hw] at HCW
  replace HCW := hide HCW
  obtain ⟨t0, t1⟩ := wrongM_to hw (by show (6 : Int) ≠ 7; decide)
  dsimp only at t0 t1
  obtain ⟨R, rfl⟩ := int_nat t0
  have hR : R < 8 := by omega
  obtain ⟨u0, u1⟩ := wrongM_fr hw (by show (6 : Int) ≠ 1; decide) (by show (6 : Int) ≠ 2; decide)
  dsimp only at u0 u1
  obtain ⟨Q, rfl⟩ := int_nat u0
  have hQ : Q < 8 := by omega
  have HS0 := hide hS0
  unfold DoV.cells at HCW HS0 ⊢
  dsimp only at HCW HS0 ⊢
  obtain ⟨a1, a2, a3, a4⟩ := HS0.out.rules 1 (g := g) (t := 39) rfl
  have e0 := (a1 0).trans (show _ = some (.int .i64 6) from rfl)
  have e1 := (a1 1).trans (show _ = some (.int .i64 _) from rfl)
  have e2 := (a1 2).trans (show _ = some (.int .i64 _) from rfl)
  have e3 := (a1 3).trans (show _ = some (.int .i64 _) from rfl)
  have e4 := (a1 4).trans (show _ = some (.int .i64 _) from rfl)
  have HOK := hide ok
  have hbnd := ok.n
  clear hS0 hF hP a1 a4 hw ok hps
  go_enter Try.func43, Try.ntmps43
  go_wp2_with fail
  refine HCW.out.mono ?_
  rintro e w1 ⟨rfl, hb1⟩
  have hS1 := HS0.out.below hb1
  obtain ⟨b1, b2, b3, b4⟩ := hS1.rules 2 (g := g + 1) (t := 41) rfl
  have f0 := (b1 0).trans (show _ = some (.int .i64 0) from rfl)
  have f1 := (b1 1).trans (show _ = some (.bool false) from rfl)
  have f2 := (b1 2).trans (show _ = some (.int .i64 0) from rfl)
  obtain ⟨a1, a2', a3', a4⟩ := hS1.rules 1 (g := g) (t := 39) rfl
  have e0 := (a1 0).trans (show _ = some (.int .i64 6) from rfl)
  have e1 := (a1 1).trans (show _ = some (.int .i64 _) from rfl)
  have e2 := (a1 2).trans (show _ = some (.int .i64 _) from rfl)
  have e3 := (a1 3).trans (show _ = some (.int .i64 _) from rfl)
  have e4 := (a1 4).trans (show _ = some (.int .i64 _) from rfl)
  clear a1 a4 b1 b4
  have HS1 := hide hS1
  clear hb1 HS0 HCW a2 a3
  have hP1 : (idI Bm Be s).P w1 := hS1.get 0 rfl
  obtain ⟨i3, i4, _, _, i2⟩ := id_cells hP1 h8 Q hQ
  obtain ⟨i5, i6, _, _, _⟩ := id_cells hP1 h8 R hR
  obtain ⟨v, hv⟩ : ∃ v, rgA s.regs (R : Int) = v := ⟨_, rfl⟩
  obtain ⟨u, hu⟩ : ∃ v, rgA s.regs (Q : Int) = v := ⟨_, rfl⟩
  rw [hv] at i5 i6
  rw [hu] at i3 i4
  have HV := hide hv
  have HU := hide hu
  obtain ⟨bv, mv⟩ := v
  obtain ⟨bu, mu⟩ := u
  dsimp only at i3 i4 i5 i6
  obtain ⟨b, hb⟩ : ∃ b, decide (((bv, mv) : Val) = (bu, mu)) = b := ⟨_, rfl⟩
  have heq : ∀ W, (binOp .eql 107 (.agg #[.bool bv, .int .i64 mv]) (.agg #[.bool bu, .int .i64 mu])).run Try.prog W = .ok (.bool b) W := fun W => by rw [eq_val, hb]
  have hgd := fun W x y => guard_val W x y bv bu mv mu
  have HB := hide hb
  clear hb
  clear hv hu hP1 hS1
  go_wp2_with fail
  go_region_held3 (fun w' => w'.cell? ⟨g, 1, none⟩ = some (.int .i64 (R : Int)) ∧ w'.cell? ⟨g, 2, none⟩ = some (.int .i64 (Q : Int)) ∧ w'.cell? ⟨Bm, Q * 2, none⟩ = some (.bool bu) ∧ w'.cell? ⟨Bm, Q * 2 + 1, none⟩ = some (.int .i64 mu) ∧ w'.cell? ⟨Bm, R * 2, none⟩ = some (.bool bv) ∧ w'.cell? ⟨Bm, R * 2 + 1, none⟩ = some (.int .i64 mv)) (go_keep) (fail)
  cases b
  · go_wp2_with fail
    have hr := HRES.out
    rw [HV.out, HU.out, if_neg (of_decide_eq_false HB.out)] at hr
    subst hr
    have hF := (((HS1.out.drew).set_ 2 (g := g + 1) (t := 41) rfl 0 (.int .i64 0)).set_ 2 (g := g + 1) (t := 41) rfl 1 (.bool false)).set_ 2 (g := g + 1) (t := 41) rfl 2 (.int .i64 0)
    refine bodyPost_ret (v := .agg #[.int .i64 0, .bool false, .int .i64 0]) (by simp [results, Try.results43, go_sem, f0, f1, f2]) rfl ⟨s, rfl, rfl, hF.sub (by simp)⟩
  · go_wp2_with fail
    have hr := HRES.out
    rw [HV.out, HU.out, if_pos (of_decide_eq_true HB.out)] at hr
    subst hr
    have hF := (((HS1.out.drew).set_ 2 (g := g + 1) (t := 41) rfl 0 (.int .i64 0)).set_ 2 (g := g + 1) (t := 41) rfl 1 (.bool false)).set_ 2 (g := g + 1) (t := 41) rfl 2 (.int .i64 1)
    refine bodyPost_ret (v := .agg #[.int .i64 0, .bool false, .int .i64 1]) (by simp [results, Try.results43, go_sem, f0, f1, f2]) rfl ⟨s, rfl, rfl, hF.sub (by simp)⟩

set_option maxRecDepth 100000 in
set_option maxHeartbeats 16000000 in
theorem do_7 {Bm Be : Nat} {s : Idl} {w : World} (hP : (idI Bm Be s).P w) (ok : IOk s) (to fr at_ n : Int) (hw : wrongM ⟨7, to, fr, at_, n⟩ = 0) : DoOk Bm Be s w ⟨7, to, fr, at_, n⟩ := by
  unfold DoOk
  obtain ⟨F, hF⟩ : ∃ F, (idI Bm Be s).fp = F := ⟨_, rfl⟩
  obtain ⟨g, hg⟩ : ∃ g, w.heap.size = g := ⟨_, rfl⟩
  have hS0 := ((Sep.start hP).blkAt 39 (DoV.cells ⟨7, to, fr, at_, n⟩) (g := g) hg).blkAt 41 #[.int .i64 0, .bool false, .int .i64 0] (g := g + 1) (by simp [hg])
  rw [hF] at hS0 ⊢
  have h8 : s.regs.length = 8 := ok.m.r8
  have hps : (absI s).objs.length = s.ps.length := by simp [absI]
  have hst : stepM ⟨7, to, fr, at_, n⟩ (absI s) = (⟨0, (rgA s.regs fr).1, if (rgA s.regs fr).1 = true then (obA (absI s).objs (rgA s.regs fr).2).length else (rgA s.regs fr).2⟩, absI s) := by
    unfold stepM
    rw [if_neg (by rw [hw]; simp)]
    unfold stepK
    dsimp only
    rw [if_neg (show ¬(7 : Int) = 1 by decide), if_neg (show ¬(7 : Int) = 2 by decide), if_neg (show ¬(7 : Int) = 3 by decide), if_neg (show ¬(7 : Int) = 4 by decide), if_neg (show ¬(7 : Int) = 5 by decide), if_neg (show ¬(7 : Int) = 6 by decide)]
    rfl
  obtain ⟨res, hres⟩ : ∃ r, stepM ⟨7, to, fr, at_, n⟩ (absI s) = r := ⟨_, rfl⟩
  rw [hres] at hst
  rw [hres]
  have HRES := hide hst
  clear hst hres
  have HCW := wrong_any ((w.alloc (.cells (DoV.cells ⟨7, to, fr, at_, n⟩) 39)).alloc (.cells #[.int .i64 0, .bool false, .int .i64 0] 41)) ⟨7, to, fr, at_, n⟩
  rw [hw] at HCW
  replace HCW := hide HCW
  obtain ⟨u0, u1⟩ := wrongM_fr hw (by show (7 : Int) ≠ 1; decide) (by show (7 : Int) ≠ 2; decide)
  dsimp only at u0 u1
  obtain ⟨Q, rfl⟩ := int_nat u0
  have hQ : Q < 8 := by omega
  have hvv : (rgA s.regs (Q : Int)).1 = true → 0 ≤ (rgA s.regs (Q : Int)).2 ∧ (rgA s.regs (Q : Int)).2 < (s.ps.length : Int) := by rw [← hps]; exact valsOk_getD ok.m.vr _
  have HVV := hide hvv
  have HS0 := hide hS0
  unfold DoV.cells at HCW HS0 ⊢
  dsimp only at HCW HS0 ⊢
  obtain ⟨a1, a2, a3, a4⟩ := HS0.out.rules 1 (g := g) (t := 39) rfl
  have e0 := (a1 0).trans (show _ = some (.int .i64 7) from rfl)
  have e1 := (a1 1).trans (show _ = some (.int .i64 _) from rfl)
  have e2 := (a1 2).trans (show _ = some (.int .i64 _) from rfl)
  have e3 := (a1 3).trans (show _ = some (.int .i64 _) from rfl)
  have e4 := (a1 4).trans (show _ = some (.int .i64 _) from rfl)
  have HOK := hide ok
  have hbnd := ok.n
  clear hS0 hF hP a1 a4 hw ok hps
  go_enter Try.func43, Try.ntmps43
  go_wp2_with fail
  refine HCW.out.mono ?_
  rintro e w1 ⟨rfl, hb1⟩
  have hS1 := HS0.out.below hb1
  obtain ⟨b1, b2, b3, b4⟩ := hS1.rules 2 (g := g + 1) (t := 41) rfl
  have f0 := (b1 0).trans (show _ = some (.int .i64 0) from rfl)
  have f1 := (b1 1).trans (show _ = some (.bool false) from rfl)
  have f2 := (b1 2).trans (show _ = some (.int .i64 0) from rfl)
  obtain ⟨a1, a2', a3', a4⟩ := hS1.rules 1 (g := g) (t := 39) rfl
  have e0 := (a1 0).trans (show _ = some (.int .i64 7) from rfl)
  have e1 := (a1 1).trans (show _ = some (.int .i64 _) from rfl)
  have e2 := (a1 2).trans (show _ = some (.int .i64 _) from rfl)
  have e3 := (a1 3).trans (show _ = some (.int .i64 _) from rfl)
  have e4 := (a1 4).trans (show _ = some (.int .i64 _) from rfl)
  clear a1 a4 b1 b4
  have HS1 := hide hS1
  clear hb1 HS0 HCW a2 a3
  have hP1 : (idI Bm Be s).P w1 := hS1.get 0 rfl
  obtain ⟨i3, i4, i1, _, i2⟩ := id_cells hP1 h8 Q hQ
  clear hvv
  obtain ⟨v, hv⟩ : ∃ v, rgA s.regs (Q : Int) = v := ⟨_, rfl⟩
  have HVD := hide hv
  rw [hv] at i3 i4 HVV
  clear hv hS1 hP1
  obtain ⟨bv, mv⟩ := v
  dsimp only at i3 i4
  go_wp2_with fail
  have q1 : g ≠ w1.heap.size := by omega
  have q2 : Bm ≠ w1.heap.size := by omega
  go_region_held3 (fun w' => w'.cell? ⟨g, 2, none⟩ = some (.int .i64 (Q : Int)) ∧ w'.cell? ⟨Bm, Q * 2, none⟩ = some (.bool bv) ∧ w'.cell? ⟨Bm, Q * 2 + 1, none⟩ = some (.int .i64 mv)) (simp (config := { maxDischargeDepth := 8 }) [*, World.cell?_alloc_some]) (fail)
  have hSv := (HS1.out.blkAt 107 #[.bool bv, .int .i64 mv] (g := w1.heap.size) rfl).drew
  obtain ⟨gv, hgv⟩ : ∃ g, w1.heap.size = g := ⟨_, rfl⟩
  obtain ⟨v1, v2, v3, _⟩ := hSv.rules 3 (g := w1.heap.size) (t := 107) rfl
  have v4 := (v1 0).trans (show _ = some (.bool bv) from rfl)
  have v5 := (v1 1).trans (show _ = some (.int .i64 mv) from rfl)
  obtain ⟨b1, b2, b3, b4⟩ := hSv.rules 2 (g := g + 1) (t := 41) rfl
  have f0 := (b1 0).trans (show _ = some (.int .i64 0) from rfl)
  have f1 := (b1 1).trans (show _ = some (.bool false) from rfl)
  have f2 := (b1 2).trans (show _ = some (.int .i64 0) from rfl)
  obtain ⟨a1, a2', a3', a4⟩ := hSv.rules 1 (g := g) (t := 39) rfl
  have e0 := (a1 0).trans (show _ = some (.int .i64 7) from rfl)
  have e1 := (a1 1).trans (show _ = some (.int .i64 _) from rfl)
  have e2 := (a1 2).trans (show _ = some (.int .i64 _) from rfl)
  have e3 := (a1 3).trans (show _ = some (.int .i64 _) from rfl)
  have e4 := (a1 4).trans (show _ = some (.int .i64 _) from rfl)
  clear a1 a4 b1 b4
  obtain ⟨c1, _, c3, c4, c5⟩ := id_cells (hSv.get 0 rfl) h8 Q hQ
  have HSV := hide hSv
  clear hSv v1
  obtain ⟨W, hW⟩ : ∃ W, (w1.alloc (.cells #[.bool bv, .int .i64 mv] 107)).drew = W := ⟨_, rfl⟩
  rw [hW] at HSV v2 v3 v4 v5 b2 b3 f0 f1 f2 e0 e1 e2 e3 e4 c3 c4 c5 ⊢
  clear hW q1 q2 i1 i2 i3 i4 c1
  try rw [hgv] at v4
  try rw [hgv] at v5
  try rw [hgv] at HSV
  try rw [hgv] at v2
  try rw [hgv] at v3
  rw [hgv]
  clear hgv
  by_cases hb : bv = true
  · subst hb
    obtain ⟨h0, h1⟩ := HVV.out rfl
    obtain ⟨i, rfl⟩ := int_nat h0
    have hi : i < s.ps.length := by omega
    have CP := hide (fun (n : Nat) => len_any (pre := []) ((Sep.start ((HSV.out.drewN n).get 0 rfl)).flat) (by have := HOK.out.n; omega) hi)
    have hme := meth_len Be (.slice s.As s.ps.length s.c) W.drew (by rw [World.cell?_drew]; exact c4)
    go_wp2_with fail
    go_region_law (first
      | (try go_simp
         go_at_call 264
         refine (CP.out 1).mono ?_
         rintro e w4 ⟨rfl, rfl⟩))
    all_goals
      have hS4 := (HSV.out.drewN 1).set_ 3 (g := gv) (t := 107) rfl 1 (.int .i64 (s.ps[i].o.n : Int))
      obtain ⟨b1, b2, b3, b4⟩ := hS4.rules 2 (g := g + 1) (t := 41) rfl
      have f0 := (b1 0).trans (show _ = some (.int .i64 0) from rfl)
      have f1 := (b1 1).trans (show _ = some (.bool false) from rfl)
      have f2 := (b1 2).trans (show _ = some (.int .i64 0) from rfl)
      obtain ⟨v1, v2, v3, _⟩ := hS4.rules 3 (g := gv) (t := 107) rfl
      have v4 := (v1 0).trans (show _ = some (.bool true) from rfl)
      have v5 := (v1 1).trans (show _ = some (.int .i64 (s.ps[i].o.n : Int)) from rfl)
      have hln := Idl.fields_len ((Sep.start (hS4.get 0 rfl)).flat) (List.getElem_mem hi)
      have HS4 := hide hS4
      have HLN := hide hln
      clear b1 b4 v1 hS4 CP hme hln
      obtain ⟨W4, hW4⟩ : ∃ W4, (W.drewN 1).setCell ⟨gv, 1, none⟩ (.int .i64 (s.ps[i].o.n : Int)) = W4 := ⟨_, rfl⟩
      rw [hW4] at HS4 f0 f1 f2 b2 b3 v2 v3 v4 v5 ⊢
      go_wp2_with fail
      have hr := HRES.out
      rw [HVD.out] at hr
      dsimp only at hr
      rw [if_pos rfl, obA_abs hi, HLN.out] at hr
      subst hr
      have hF := (((HS4.out).set_ 2 (g := g + 1) (t := 41) rfl 0 (.int .i64 0)).set_ 2 (g := g + 1) (t := 41) rfl 1 (.bool true)).set_ 2 (g := g + 1) (t := 41) rfl 2 (.int .i64 (s.ps[i].o.n : Int))
      refine bodyPost_ret (v := .agg #[.int .i64 0, .bool true, .int .i64 (s.ps[i].o.n : Int)]) (by simp [results, Try.results43, go_sem, f0, f1, f2]) rfl ⟨s, rfl, rfl, hF.sub (by simp)⟩
  · have hb2 : bv = false := by cases bv <;> simp_all
    subst hb2
    go_wp2_with fail
    have hr := HRES.out
    rw [HVD.out] at hr
    dsimp only at hr
    rw [if_neg (by decide)] at hr
    subst hr
    have hF := (((HSV.out).set_ 2 (g := g + 1) (t := 41) rfl 0 (.int .i64 0)).set_ 2 (g := g + 1) (t := 41) rfl 1 (.bool false)).set_ 2 (g := g + 1) (t := 41) rfl 2 (.int .i64 mv)
    refine bodyPost_ret (v := .agg #[.int .i64 0, .bool false, .int .i64 mv]) (by simp [results, Try.results43, go_sem, f0, f1, f2]) rfl ⟨s, rfl, rfl, hF.sub (by simp)⟩

theorem do_any {Bm Be : Nat} {s : Idl} {w : World} (hP : (idI Bm Be s).P w) (ok : IOk s) (d : DoV) : DoOk Bm Be s w d := by
  by_cases hw : wrongM d = 0
  · obtain ⟨k1, k2⟩ := wrongM_rng hw
    obtain ⟨k, to, fr, at_, n⟩ := d
    dsimp only at k1 k2
    obtain rfl | rfl | rfl | rfl | rfl | rfl | rfl : k = 1 ∨ k = 2 ∨ k = 3 ∨ k = 4 ∨ k = 5 ∨ k = 6 ∨ k = 7 := by omega
    · exact do_1 hP ok to fr at_ n hw
    · exact do_2 hP ok to fr at_ n hw
    · exact do_3 hP ok to fr at_ n hw
    · exact do_4 hP ok to fr at_ n hw
    · exact do_5 hP ok to fr at_ n hw
    · exact do_6 hP ok to fr at_ n hw
    · exact do_7 hP ok to fr at_ n hw
  · exact do_bad hP d hw
end Go.Proofs.Ytjphckfbbiehdaa
