/- The reference of a memory that counts: what stands where something comes to_ stand. A memory that counts, plain: what the reference's deeds keep, ahead of what goes. The reference of a memory that counts: a script. -/
import Derived.Test.YtjphckfbbiehdaaGCountPlays6
import Derived.Test.YtjphckfbbiehdaaGCountPlays4
import Derived.Test.YtjphckfbbiehdaaGIdealPlays9
import Derived.Test.YtjphckfbbiehdaaGIdealPlays18
import Derived.Test.YtjphckfbbiehdaaGIdealPlays17
import Derived.Deep.DeepCutAuto
set_option linter.unusedSimpArgs false
set_option linter.unusedVariables false
namespace Go.Proofs.Ytjphckfbbiehdaa
open Go.RowKit

def OldOk (Bm : Nat) (s : RMem) (w : World) (d : DoV) : Prop :=
  Calls Try.prog 80 #[.pointer (some ⟨Bm, 0, none⟩), .agg d.cells] w fun e w' => e = .returned (.agg #[.bool (crOld d (absR s)).1, .int .i64 (crOld d (absR s)).2]) ∧ Below w.heap.size w w'

set_option maxRecDepth 100000 in
set_option maxHeartbeats 16000000 in
theorem old_1 {Bm : Nat} {s : RMem} {w : World} (hP : (rmI Bm s).P w) (ok : ROk s) (R : Nat) (hR : R < 8) (fr at_ n : Int) : OldOk Bm s w ⟨1, R, fr, at_, n⟩ := by
  unfold OldOk
  obtain ⟨g, hg⟩ : ∃ g, w.heap.size = g := ⟨_, rfl⟩
  have hS0 := ((Sep.start hP).blkAt 39 (DoV.cells ⟨1, R, fr, at_, n⟩) hg).blkAt 107 #[.bool false, .int .i64 0] (g := g + 1) (by simp [hg])
  have hN0 := ((Sep.nil No w).blkAt 39 (DoV.cells ⟨1, R, fr, at_, n⟩) hg).blkAt 107 #[.bool false, .int .i64 0] (g := g + 1) (by simp [hg])
  unfold DoV.cells at hS0 hN0 ⊢
  dsimp only at hS0 hN0 ⊢
  obtain ⟨W, hW⟩ : ∃ W, (w.alloc (.cells #[.int .i64 1, .int .i64 R, .int .i64 fr, .int .i64 at_, .int .i64 n] 39)).alloc (.cells #[.bool false, .int .i64 0] 107) = W := ⟨_, rfl⟩
  have HWW := hide hW
  rw [hW] at hS0 hN0
  have hmx : Try.prog.follows .mixedOrders = true := by kernel_rfl
  have h8 : s.regs.length = 8 := ok.m.r8
  obtain ⟨a1, _, a3, _⟩ := hS0.rules 1 (g := g) (t := 39) rfl
  have e0 := (a1 0).trans (show _ = some (.int .i64 _) from rfl)
  have e1 := (a1 1).trans (show _ = some (.int .i64 _) from rfl)
  have e2 := (a1 2).trans (show _ = some (.int .i64 _) from rfl)
  have e3 := (a1 3).trans (show _ = some (.int .i64 _) from rfl)
  obtain ⟨b1, b2, b3, _⟩ := hS0.rules 2 (g := g + 1) (t := 107) rfl
  have f0 := (b1 0).trans (show _ = some (.bool false) from rfl)
  have f1 := (b1 1).trans (show _ = some (.int .i64 0) from rfl)
  obtain ⟨m0, m1, m2, m3, m4⟩ := rm_mem (hS0.get 0 rfl)
  obtain ⟨L, hL⟩ : ∃ x, s.regs.length = x := ⟨_, rfl⟩
  rw [hL] at m0
  have hLL : L = 8 := by omega
  obtain ⟨r0, r1, _, _, r4⟩ := rm_reg (hS0.get 0 rfl) h8 R hR
  have z1 : R < L := by omega
  rw [show crOld ⟨1, R, fr, at_, n⟩ (absR s) = rgA s.regs (R : Int) from by unfold crOld; rw [if_pos (by simp)]; rfl]
  obtain ⟨v, hv⟩ : ∃ v, rgA s.regs (R : Int) = v := ⟨_, rfl⟩
  rw [hv] at r0 r1 ⊢
  obtain ⟨bv, mv⟩ := v
  dsimp only at r0 r1 ⊢
  have HB := hide (((hN0.set_ 1 (g := g + 1) (t := 107) rfl 0 (.bool bv)).set_ 1 (g := g + 1) (t := 107) rfl 1 (.int .i64 mv)).drew.below_)
  clear hS0 hN0 a1 b1 hP ok h8 hL hLL hv hW m1 m2
  go_enter Try.func80, Try.ntmps80
  go_wp2_with fail
  rw [HWW.out]
  go_still_tail 8, hmx
  go_wp2_with fail
  refine bodyPost_ret (v := .agg #[.bool bv, .int .i64 mv]) (by simp [results, Try.results80, go_sem, f0, f1]) rfl ⟨rfl, HB.out⟩

set_option maxRecDepth 100000 in
set_option maxHeartbeats 16000000 in
theorem old_2 {Bm : Nat} {s : RMem} {w : World} (hP : (rmI Bm s).P w) (ok : ROk s) (R : Nat) (hR : R < 8) (fr at_ n : Int) : OldOk Bm s w ⟨2, R, fr, at_, n⟩ := by
  unfold OldOk
  obtain ⟨g, hg⟩ : ∃ g, w.heap.size = g := ⟨_, rfl⟩
  have hS0 := ((Sep.start hP).blkAt 39 (DoV.cells ⟨2, R, fr, at_, n⟩) hg).blkAt 107 #[.bool false, .int .i64 0] (g := g + 1) (by simp [hg])
  have hN0 := ((Sep.nil No w).blkAt 39 (DoV.cells ⟨2, R, fr, at_, n⟩) hg).blkAt 107 #[.bool false, .int .i64 0] (g := g + 1) (by simp [hg])
  unfold DoV.cells at hS0 hN0 ⊢
  dsimp only at hS0 hN0 ⊢
  obtain ⟨W, hW⟩ : ∃ W, (w.alloc (.cells #[.int .i64 2, .int .i64 R, .int .i64 fr, .int .i64 at_, .int .i64 n] 39)).alloc (.cells #[.bool false, .int .i64 0] 107) = W := ⟨_, rfl⟩
  have HWW := hide hW
  rw [hW] at hS0 hN0
  have hmx : Try.prog.follows .mixedOrders = true := by kernel_rfl
  have h8 : s.regs.length = 8 := ok.m.r8
  obtain ⟨a1, _, a3, _⟩ := hS0.rules 1 (g := g) (t := 39) rfl
  have e0 := (a1 0).trans (show _ = some (.int .i64 _) from rfl)
  have e1 := (a1 1).trans (show _ = some (.int .i64 _) from rfl)
  have e2 := (a1 2).trans (show _ = some (.int .i64 _) from rfl)
  have e3 := (a1 3).trans (show _ = some (.int .i64 _) from rfl)
  obtain ⟨b1, b2, b3, _⟩ := hS0.rules 2 (g := g + 1) (t := 107) rfl
  have f0 := (b1 0).trans (show _ = some (.bool false) from rfl)
  have f1 := (b1 1).trans (show _ = some (.int .i64 0) from rfl)
  obtain ⟨m0, m1, m2, m3, m4⟩ := rm_mem (hS0.get 0 rfl)
  obtain ⟨L, hL⟩ : ∃ x, s.regs.length = x := ⟨_, rfl⟩
  rw [hL] at m0
  have hLL : L = 8 := by omega
  obtain ⟨r0, r1, _, _, r4⟩ := rm_reg (hS0.get 0 rfl) h8 R hR
  have z1 : R < L := by omega
  rw [show crOld ⟨2, R, fr, at_, n⟩ (absR s) = rgA s.regs (R : Int) from by unfold crOld; rw [if_pos (by simp)]; rfl]
  obtain ⟨v, hv⟩ : ∃ v, rgA s.regs (R : Int) = v := ⟨_, rfl⟩
  rw [hv] at r0 r1 ⊢
  obtain ⟨bv, mv⟩ := v
  dsimp only at r0 r1 ⊢
  have HB := hide (((hN0.set_ 1 (g := g + 1) (t := 107) rfl 0 (.bool bv)).set_ 1 (g := g + 1) (t := 107) rfl 1 (.int .i64 mv)).drew.below_)
  clear hS0 hN0 a1 b1 hP ok h8 hL hLL hv hW m1 m2
  go_enter Try.func80, Try.ntmps80
  go_wp2_with fail
  rw [HWW.out]
  go_still_tail 8, hmx
  go_wp2_with fail
  refine bodyPost_ret (v := .agg #[.bool bv, .int .i64 mv]) (by simp [results, Try.results80, go_sem, f0, f1]) rfl ⟨rfl, HB.out⟩

set_option maxRecDepth 100000 in
set_option maxHeartbeats 16000000 in
theorem old_3 {Bm : Nat} {s : RMem} {w : World} (hP : (rmI Bm s).P w) (ok : ROk s) (R : Nat) (hR : R < 8) (fr at_ n : Int) : OldOk Bm s w ⟨3, R, fr, at_, n⟩ := by
  unfold OldOk
  obtain ⟨g, hg⟩ : ∃ g, w.heap.size = g := ⟨_, rfl⟩
  have hS0 := ((Sep.start hP).blkAt 39 (DoV.cells ⟨3, R, fr, at_, n⟩) hg).blkAt 107 #[.bool false, .int .i64 0] (g := g + 1) (by simp [hg])
  have hN0 := ((Sep.nil No w).blkAt 39 (DoV.cells ⟨3, R, fr, at_, n⟩) hg).blkAt 107 #[.bool false, .int .i64 0] (g := g + 1) (by simp [hg])
  unfold DoV.cells at hS0 hN0 ⊢
  dsimp only at hS0 hN0 ⊢
  obtain ⟨W, hW⟩ : ∃ W, (w.alloc (.cells #[.int .i64 3, .int .i64 R, .int .i64 fr, .int .i64 at_, .int .i64 n] 39)).alloc (.cells #[.bool false, .int .i64 0] 107) = W := ⟨_, rfl⟩
  have HWW := hide hW
  rw [hW] at hS0 hN0
  have hmx : Try.prog.follows .mixedOrders = true := by kernel_rfl
  have h8 : s.regs.length = 8 := ok.m.r8
  obtain ⟨a1, _, a3, _⟩ := hS0.rules 1 (g := g) (t := 39) rfl
  have e0 := (a1 0).trans (show _ = some (.int .i64 _) from rfl)
  have e1 := (a1 1).trans (show _ = some (.int .i64 _) from rfl)
  have e2 := (a1 2).trans (show _ = some (.int .i64 _) from rfl)
  have e3 := (a1 3).trans (show _ = some (.int .i64 _) from rfl)
  obtain ⟨b1, b2, b3, _⟩ := hS0.rules 2 (g := g + 1) (t := 107) rfl
  have f0 := (b1 0).trans (show _ = some (.bool false) from rfl)
  have f1 := (b1 1).trans (show _ = some (.int .i64 0) from rfl)
  obtain ⟨m0, m1, m2, m3, m4⟩ := rm_mem (hS0.get 0 rfl)
  obtain ⟨L, hL⟩ : ∃ x, s.regs.length = x := ⟨_, rfl⟩
  rw [hL] at m0
  have hLL : L = 8 := by omega
  obtain ⟨r0, r1, _, _, r4⟩ := rm_reg (hS0.get 0 rfl) h8 R hR
  have z1 : R < L := by omega
  rw [show crOld ⟨3, R, fr, at_, n⟩ (absR s) = rgA s.regs (R : Int) from by unfold crOld; rw [if_pos (by simp)]; rfl]
  obtain ⟨v, hv⟩ : ∃ v, rgA s.regs (R : Int) = v := ⟨_, rfl⟩
  rw [hv] at r0 r1 ⊢
  obtain ⟨bv, mv⟩ := v
  dsimp only at r0 r1 ⊢
  have HB := hide (((hN0.set_ 1 (g := g + 1) (t := 107) rfl 0 (.bool bv)).set_ 1 (g := g + 1) (t := 107) rfl 1 (.int .i64 mv)).drew.below_)
  clear hS0 hN0 a1 b1 hP ok h8 hL hLL hv hW m1 m2
  go_enter Try.func80, Try.ntmps80
  go_wp2_with fail
  rw [HWW.out]
  go_still_tail 8, hmx
  go_wp2_with fail
  refine bodyPost_ret (v := .agg #[.bool bv, .int .i64 mv]) (by simp [results, Try.results80, go_sem, f0, f1]) rfl ⟨rfl, HB.out⟩

set_option maxRecDepth 100000 in
set_option maxHeartbeats 16000000 in
theorem old_5 {Bm : Nat} {s : RMem} {w : World} (hP : (rmI Bm s).P w) (ok : ROk s) (R : Nat) (hR : R < 8) (fr at_ n : Int) : OldOk Bm s w ⟨5, R, fr, at_, n⟩ := by
  unfold OldOk
  obtain ⟨g, hg⟩ : ∃ g, w.heap.size = g := ⟨_, rfl⟩
  have hS0 := ((Sep.start hP).blkAt 39 (DoV.cells ⟨5, R, fr, at_, n⟩) hg).blkAt 107 #[.bool false, .int .i64 0] (g := g + 1) (by simp [hg])
  have hN0 := ((Sep.nil No w).blkAt 39 (DoV.cells ⟨5, R, fr, at_, n⟩) hg).blkAt 107 #[.bool false, .int .i64 0] (g := g + 1) (by simp [hg])
  unfold DoV.cells at hS0 hN0 ⊢
  dsimp only at hS0 hN0 ⊢
  obtain ⟨W, hW⟩ : ∃ W, (w.alloc (.cells #[.int .i64 5, .int .i64 R, .int .i64 fr, .int .i64 at_, .int .i64 n] 39)).alloc (.cells #[.bool false, .int .i64 0] 107) = W := ⟨_, rfl⟩
  have HWW := hide hW
  rw [hW] at hS0 hN0
  have hmx : Try.prog.follows .mixedOrders = true := by kernel_rfl
  have h8 : s.regs.length = 8 := ok.m.r8
  obtain ⟨a1, _, a3, _⟩ := hS0.rules 1 (g := g) (t := 39) rfl
  have e0 := (a1 0).trans (show _ = some (.int .i64 _) from rfl)
  have e1 := (a1 1).trans (show _ = some (.int .i64 _) from rfl)
  have e2 := (a1 2).trans (show _ = some (.int .i64 _) from rfl)
  have e3 := (a1 3).trans (show _ = some (.int .i64 _) from rfl)
  obtain ⟨b1, b2, b3, _⟩ := hS0.rules 2 (g := g + 1) (t := 107) rfl
  have f0 := (b1 0).trans (show _ = some (.bool false) from rfl)
  have f1 := (b1 1).trans (show _ = some (.int .i64 0) from rfl)
  obtain ⟨m0, m1, m2, m3, m4⟩ := rm_mem (hS0.get 0 rfl)
  obtain ⟨L, hL⟩ : ∃ x, s.regs.length = x := ⟨_, rfl⟩
  rw [hL] at m0
  have hLL : L = 8 := by omega
  obtain ⟨r0, r1, _, _, r4⟩ := rm_reg (hS0.get 0 rfl) h8 R hR
  have z1 : R < L := by omega
  rw [show crOld ⟨5, R, fr, at_, n⟩ (absR s) = rgA s.regs (R : Int) from by unfold crOld; rw [if_pos (by simp)]; rfl]
  obtain ⟨v, hv⟩ : ∃ v, rgA s.regs (R : Int) = v := ⟨_, rfl⟩
  rw [hv] at r0 r1 ⊢
  obtain ⟨bv, mv⟩ := v
  dsimp only at r0 r1 ⊢
  have HB := hide (((hN0.set_ 1 (g := g + 1) (t := 107) rfl 0 (.bool bv)).set_ 1 (g := g + 1) (t := 107) rfl 1 (.int .i64 mv)).drew.below_)
  clear hS0 hN0 a1 b1 hP ok h8 hL hLL hv hW m1 m2
  go_enter Try.func80, Try.ntmps80
  go_wp2_with fail
  rw [HWW.out]
  go_still_tail 8, hmx
  go_wp2_with fail
  refine bodyPost_ret (v := .agg #[.bool bv, .int .i64 mv]) (by simp [results, Try.results80, go_sem, f0, f1]) rfl ⟨rfl, HB.out⟩

set_option maxRecDepth 100000 in
set_option maxHeartbeats 16000000 in
theorem old_6 {Bm : Nat} {s : RMem} {w : World} (hP : (rmI Bm s).P w) (ok : ROk s) (to_ fr at_ n : Int) : OldOk Bm s w ⟨6, to_, fr, at_, n⟩ := by
  unfold OldOk
  obtain ⟨g, hg⟩ : ∃ g, w.heap.size = g := ⟨_, rfl⟩
  have hS0 := ((Sep.start hP).blkAt 39 (DoV.cells ⟨6, to_, fr, at_, n⟩) hg).blkAt 107 #[.bool false, .int .i64 0] (g := g + 1) (by simp [hg])
  have hN0 := ((Sep.nil No w).blkAt 39 (DoV.cells ⟨6, to_, fr, at_, n⟩) hg).blkAt 107 #[.bool false, .int .i64 0] (g := g + 1) (by simp [hg])
  unfold DoV.cells at hS0 hN0 ⊢
  dsimp only at hS0 hN0 ⊢
  obtain ⟨W, hW⟩ : ∃ W, (w.alloc (.cells #[.int .i64 6, .int .i64 to_, .int .i64 fr, .int .i64 at_, .int .i64 n] 39)).alloc (.cells #[.bool false, .int .i64 0] 107) = W := ⟨_, rfl⟩
  have HWW := hide hW
  rw [hW] at hS0 hN0
  have hmx : Try.prog.follows .mixedOrders = true := by kernel_rfl
  have h8 : s.regs.length = 8 := ok.m.r8
  obtain ⟨a1, _, a3, _⟩ := hS0.rules 1 (g := g) (t := 39) rfl
  have e0 := (a1 0).trans (show _ = some (.int .i64 _) from rfl)
  have e1 := (a1 1).trans (show _ = some (.int .i64 _) from rfl)
  have e2 := (a1 2).trans (show _ = some (.int .i64 _) from rfl)
  have e3 := (a1 3).trans (show _ = some (.int .i64 _) from rfl)
  obtain ⟨b1, b2, b3, _⟩ := hS0.rules 2 (g := g + 1) (t := 107) rfl
  have f0 := (b1 0).trans (show _ = some (.bool false) from rfl)
  have f1 := (b1 1).trans (show _ = some (.int .i64 0) from rfl)
  obtain ⟨m0, m1, m2, m3, m4⟩ := rm_mem (hS0.get 0 rfl)
  obtain ⟨L, hL⟩ : ∃ x, s.regs.length = x := ⟨_, rfl⟩
  rw [hL] at m0
  have hLL : L = 8 := by omega
  rw [show crOld ⟨6, to_, fr, at_, n⟩ (absR s) = (false, 0) from by unfold crOld; rw [if_neg (by simp), if_neg (by simp)]]
  have HB := hide hN0.below_
  clear hS0 hN0 a1 b1 hP ok h8 hL hLL hW m1 m2
  go_enter Try.func80, Try.ntmps80
  go_wp2_with fail
  rw [HWW.out]
  go_wp2_with fail
  refine bodyPost_ret (v := .agg #[.bool false, .int .i64 0]) (by simp [results, Try.results80, go_sem, f0, f1]) rfl ⟨rfl, HB.out⟩

set_option maxRecDepth 100000 in
set_option maxHeartbeats 16000000 in
theorem old_7 {Bm : Nat} {s : RMem} {w : World} (hP : (rmI Bm s).P w) (ok : ROk s) (to_ fr at_ n : Int) : OldOk Bm s w ⟨7, to_, fr, at_, n⟩ := by
  unfold OldOk
  obtain ⟨g, hg⟩ : ∃ g, w.heap.size = g := ⟨_, rfl⟩
  have hS0 := ((Sep.start hP).blkAt 39 (DoV.cells ⟨7, to_, fr, at_, n⟩) hg).blkAt 107 #[.bool false, .int .i64 0] (g := g + 1) (by simp [hg])
  have hN0 := ((Sep.nil No w).blkAt 39 (DoV.cells ⟨7, to_, fr, at_, n⟩) hg).blkAt 107 #[.bool false, .int .i64 0] (g := g + 1) (by simp [hg])
  unfold DoV.cells at hS0 hN0 ⊢
  dsimp only at hS0 hN0 ⊢
  obtain ⟨W, hW⟩ : ∃ W, (w.alloc (.cells #[.int .i64 7, .int .i64 to_, .int .i64 fr, .int .i64 at_, .int .i64 n] 39)).alloc (.cells #[.bool false, .int .i64 0] 107) = W := ⟨_, rfl⟩
  have HWW := hide hW
  rw [hW] at hS0 hN0
  have hmx : Try.prog.follows .mixedOrders = true := by kernel_rfl
  have h8 : s.regs.length = 8 := ok.m.r8
  obtain ⟨a1, _, a3, _⟩ := hS0.rules 1 (g := g) (t := 39) rfl
  have e0 := (a1 0).trans (show _ = some (.int .i64 _) from rfl)
  have e1 := (a1 1).trans (show _ = some (.int .i64 _) from rfl)
  have e2 := (a1 2).trans (show _ = some (.int .i64 _) from rfl)
  have e3 := (a1 3).trans (show _ = some (.int .i64 _) from rfl)
  obtain ⟨b1, b2, b3, _⟩ := hS0.rules 2 (g := g + 1) (t := 107) rfl
  have f0 := (b1 0).trans (show _ = some (.bool false) from rfl)
  have f1 := (b1 1).trans (show _ = some (.int .i64 0) from rfl)
  obtain ⟨m0, m1, m2, m3, m4⟩ := rm_mem (hS0.get 0 rfl)
  obtain ⟨L, hL⟩ : ∃ x, s.regs.length = x := ⟨_, rfl⟩
  rw [hL] at m0
  have hLL : L = 8 := by omega
  rw [show crOld ⟨7, to_, fr, at_, n⟩ (absR s) = (false, 0) from by unfold crOld; rw [if_neg (by simp), if_neg (by simp)]]
  have HB := hide hN0.below_
  clear hS0 hN0 a1 b1 hP ok h8 hL hLL hW m1 m2
  go_enter Try.func80, Try.ntmps80
  go_wp2_with fail
  rw [HWW.out]
  go_wp2_with fail
  refine bodyPost_ret (v := .agg #[.bool false, .int .i64 0]) (by simp [results, Try.results80, go_sem, f0, f1]) rfl ⟨rfl, HB.out⟩

set_option maxRecDepth 100000 in
set_option maxHeartbeats 16000000 in
theorem old_4 {Bm : Nat} {s : RMem} {w : World} (hP : (rmI Bm s).P w) (ok : ROk s) (R : Nat) (hR : R < 8) (fr at_ n : Int) (hz : fErr (absR s).objs (rgA s.regs R) at_ = 0) : OldOk Bm s w ⟨4, R, fr, at_, n⟩ := by
  obtain ⟨i, k, hRi, rfl, hi, hk, hkn, hn4, hoe⟩ := rferr_facts hP ok R hz
  unfold OldOk
  obtain ⟨g, hg⟩ : ∃ g, w.heap.size = g := ⟨_, rfl⟩
  have hS0 := ((Sep.start hP).blkAt 39 (DoV.cells ⟨4, R, fr, k, n⟩) hg).blkAt 107 #[.bool false, .int .i64 0] (g := g + 1) (by simp [hg])
  have hN0 := ((Sep.nil No w).blkAt 39 (DoV.cells ⟨4, R, fr, k, n⟩) hg).blkAt 107 #[.bool false, .int .i64 0] (g := g + 1) (by simp [hg])
  unfold DoV.cells at hS0 hN0 ⊢
  dsimp only at hS0 hN0 ⊢
  obtain ⟨W, hW⟩ : ∃ W, (w.alloc (.cells #[.int .i64 4, .int .i64 R, .int .i64 fr, .int .i64 k, .int .i64 n] 39)).alloc (.cells #[.bool false, .int .i64 0] 107) = W := ⟨_, rfl⟩
  have HWW := hide hW
  rw [hW] at hS0 hN0
  have hmx : Try.prog.follows .mixedOrders = true := by kernel_rfl
  have h8 : s.regs.length = 8 := ok.m.r8
  obtain ⟨a1, _, a3, _⟩ := hS0.rules 1 (g := g) (t := 39) rfl
  have e0 := (a1 0).trans (show _ = some (.int .i64 _) from rfl)
  have e1 := (a1 1).trans (show _ = some (.int .i64 _) from rfl)
  have e2 := (a1 2).trans (show _ = some (.int .i64 _) from rfl)
  have e3 := (a1 3).trans (show _ = some (.int .i64 _) from rfl)
  obtain ⟨b1, b2, b3, _⟩ := hS0.rules 2 (g := g + 1) (t := 107) rfl
  have f0 := (b1 0).trans (show _ = some (.bool false) from rfl)
  have f1 := (b1 1).trans (show _ = some (.int .i64 0) from rfl)
  obtain ⟨m0, m1, m2, m3, m4⟩ := rm_mem (hS0.get 0 rfl)
  obtain ⟨L, hL⟩ : ∃ x, s.regs.length = x := ⟨_, rfl⟩
  rw [hL] at m0
  have hLL : L = 8 := by omega
  obtain ⟨r0, r1, _, _, r4⟩ := rm_reg (hS0.get 0 rfl) h8 R hR
  have z1 : R < L := by omega
  rw [hRi] at r0 r1
  obtain ⟨oA, hoA⟩ : ∃ x, s.obs[i].A = x := ⟨_, rfl⟩
  obtain ⟨oN, hoN⟩ : ∃ x, s.obs[i].n = x := ⟨_, rfl⟩
  obtain ⟨oC, hoC⟩ : ∃ x, s.obs[i].c = x := ⟨_, rfl⟩
  rw [hoN] at hkn hn4
  obtain ⟨ga, hga, o1, _⟩ := rm_ob (hS0.get 0 rfl) hi
  obtain ⟨g2, hA, d1, d2, d3, d4, d5⟩ := rm_field (hS0.get 0 rfl) hi hk
  rw [hA, hoN, hoC] at o1
  rw [hga] at m1
  obtain ⟨N, hN⟩ : ∃ x, s.obs.length = x := ⟨_, rfl⟩
  rw [hN] at m1
  have hiN : i < N := by omega
  rw [show crOld ⟨4, R, fr, k, n⟩ (absR s) = s.obs[i].fields[k] from by
    unfold crOld
    rw [if_neg (by simp), if_pos rfl, show rgA (absR s).regs (R : Int) = (true, (i : Int)) from hRi]
    dsimp only
    rw [hoe, Int.toNat_natCast, List.getD_eq_getElem?_getD, List.getElem?_eq_getElem hk]; rfl]
  obtain ⟨v, hv⟩ : ∃ v, s.obs[i].fields[k] = v := ⟨_, rfl⟩
  rw [hv] at d1 d2 ⊢
  obtain ⟨bv, mv⟩ := v
  dsimp only at r0 r1 d1 d2 ⊢
  have HB := hide (((hN0.set_ 1 (g := g + 1) (t := 107) rfl 0 (.bool bv)).set_ 1 (g := g + 1) (t := 107) rfl 1 (.int .i64 mv)).drew.below_)
  clear hS0 hN0 a1 b1 ok h8 hL hLL hv hW m2 hoe hRi hz hA hoA hoN hoC hga hN hi hk hP
  go_enter Try.func80, Try.ntmps80
  go_wp2_with fail
  rw [HWW.out]
  go_still_tail 20, hmx
  go_wp2_with fail
  refine bodyPost_ret (v := .agg #[.bool bv, .int .i64 mv]) (by simp [results, Try.results80, go_sem, f0, f1]) rfl ⟨rfl, HB.out⟩
theorem old_any {Bm : Nat} {s : RMem} {w : World} (hP : (rmI Bm s).P w) (ok : ROk s) (d : DoV) (hw : rWrong d (absR s) = 0) : OldOk Bm s w d := by
  have hw1 : wrongM d = 0 := by
    unfold rWrong at hw
    by_cases h : wrongM d ≠ 0
    · rw [if_pos h] at hw; exact hw
    · omega
  obtain ⟨k1, k2⟩ := wrongM_rng hw1
  unfold rWrong at hw
  rw [if_neg (by omega)] at hw
  obtain ⟨k, to_, fr, at_, n⟩ := d
  dsimp only at k1 k2 hw
  obtain rfl | rfl | rfl | rfl | rfl | rfl | rfl : k = 1 ∨ k = 2 ∨ k = 3 ∨ k = 4 ∨ k = 5 ∨ k = 6 ∨ k = 7 := by omega
  · obtain ⟨R, rfl, hR⟩ := to_of hw1 (by decide)
    exact old_1 hP ok R hR fr at_ n
  · obtain ⟨R, rfl, hR⟩ := to_of hw1 (by decide)
    exact old_2 hP ok R hR fr at_ n
  · obtain ⟨R, rfl, hR⟩ := to_of hw1 (by decide)
    exact old_3 hP ok R hR fr at_ n
  · obtain ⟨R, rfl, hR⟩ := to_of hw1 (by decide)
    exact old_4 hP ok R hR fr at_ n (by rw [if_pos rfl] at hw; exact hw)
  · obtain ⟨R, rfl, hR⟩ := to_of hw1 (by decide)
    exact old_5 hP ok R hR fr at_ n
  · exact old_6 hP ok to_ fr at_ n
  · exact old_7 hP ok to_ fr at_ n
end Go.Proofs.Ytjphckfbbiehdaa

namespace Go.Proofs.Ytjphckfbbiehdaa
open Go.RowKit

theorem CrOk.cn {t : CrA} (ok : CrOk t) : CnSim ⟨t.σ.regs, maskL t.σ.objs t.gone, (List.range t.σ.objs.length).map fun j => (pts j t.σ : Int), t.gl⟩ t := ⟨SimC.exists t, rfl, ok⟩
theorem CrOk.ref {t : CrA} (ok : CrOk t) {v : Val} (hv : v.1 = true → ∃ z : Nat, v.2 = (z : Int) ∧ z < t.σ.objs.length ∧ 1 ≤ pts z t.σ) : v.1 = true → ∃ z : Nat, v.2 = (z : Int) ∧ t.gone[z]? = some false := fun hb => by
  obtain ⟨z, e, hz, h1⟩ := hv hb
  refine ⟨z, e, ?_⟩
  cases h2 : t.gone[z]? with
  | none => rw [List.getElem?_eq_none_iff, ok.lg] at h2; omega
  | some b =>
    cases b
    · rfl
    · have := ok.th z h2; omega
theorem CrOk.rep {t : CrA} (ok : CrOk t) {u v : Val} {σ' : MSt} (hm : MOk σ') (hl : σ'.objs.length = t.σ.objs.length)
    (hp : ∀ j, pts j σ' + (if refB j u = true then 1 else 0) = pts j t.σ + (if refB j v = true then 1 else 0))
    (hv : v.1 = true → ∃ z : Nat, v.2 = (z : Int) ∧ t.gone[z]? = some false) : CrOk ⟨σ', t.gone, t.gl⟩ :=
  ⟨by rw [show (⟨σ', t.gone, t.gl⟩ : CrA).σ = σ' from rfl, hl]; exact ok.lg, hm, fun j hj => by
    have h1 := hp j
    have h2 := ok.th j hj
    by_cases hr : refB j v = true
    · obtain ⟨e1, e2⟩ := refB_eq hr
      obtain ⟨z, e3, hz⟩ := hv e1
      have : z = j := by omega
      subst this
      rw [show t.gone[z]? = some true from hj] at hz
      cases hz
    · rw [if_neg hr] at h1
      show pts j σ' = 0
      omega⟩
theorem CrOk.regv {t : CrA} (ok : CrOk t) {r : Nat} (hr : r < 8) : (rgA t.σ.regs (r : Int)).1 = true → ∃ z : Nat, (rgA t.σ.regs (r : Int)).2 = (z : Int) ∧ t.gone[z]? = some false := ok.ref (ok.m.pos_reg hr)
theorem CrOk.fldv {t : CrA} (ok : CrOk t) {i : Nat} (hi : i < t.σ.objs.length) {v : Val} (hv : v ∈ obA t.σ.objs (i : Int)) : v.1 = true → ∃ z : Nat, v.2 = (z : Int) ∧ t.gone[z]? = some false :=
  ok.ref (mok_pos (ok.m.ob (i : Int)).1 hv fun j => by have := ptsO_mem (j := j) (ob_at hi); unfold pts; omega)
theorem CrOk.reg {t : CrA} (ok : CrOk t) {r : Nat} (hr : r < 8) {v : Val} (hv : v.1 = true → ∃ z : Nat, v.2 = (z : Int) ∧ t.gone[z]? = some false) : CrOk ⟨⟨t.σ.regs.set r v, t.σ.objs⟩, t.gone, t.gl⟩ := by
  have h8 := ok.m.r8
  have hm : MOk ⟨t.σ.regs.set r v, t.σ.objs⟩ := ⟨by dsimp only; rw [List.length_set]; exact h8, valsOk_set ok.m.vr _ (fun hb => by
    obtain ⟨z, e, hz⟩ := hv hb
    have := (List.getElem?_eq_some_iff.1 hz).1
    have := ok.lg
    omega), ok.m.vo, ok.m.f4⟩
  exact ok.rep (u := rgA t.σ.regs (r : Int)) (v := v) hm rfl (fun j => by
    have := occ_set (j := j) v (rgA_at (l := t.σ.regs) (r := r) (by omega))
    unfold pts
    dsimp only
    omega) hv
theorem ferr_at {σ : MSt} (m : MOk σ) {r : Nat} (hr : r < 8) {at_ : Int} (hz : fErr σ.objs (rgA σ.regs (r : Int)) at_ = 0) : ∃ i k : Nat, rgA σ.regs (r : Int) = (true, (i : Int)) ∧ at_ = (k : Int) ∧ i < σ.objs.length ∧ k < (obA σ.objs (i : Int)).length := by
  obtain ⟨h1, h2, h3⟩ := ferr_zero hz
  obtain ⟨z, e, hz2, _⟩ := m.pos_reg hr h1
  obtain ⟨k, rfl⟩ := int_nat h2
  rw [e] at h3
  exact ⟨z, k, Prod.ext h1 e, rfl, hz2, by omega⟩
theorem cr_do_ok {t : CrA} (ok : CrOk t) {d : DoV} (hw : rWrong d t.σ = 0) : CrOk (t.do_ d) ∧ ((crOld d t.σ).1 = true → ∃ z : Nat, (crOld d t.σ).2 = (z : Int) ∧ (t.do_ d).gone[z]? = some false) := by
  have hw1 : wrongM d = 0 := by
    unfold rWrong at hw
    by_cases h : wrongM d ≠ 0
    · rw [if_pos h] at hw; exact hw
    · omega
  have hmm := stepK_m ok.m hw
  obtain ⟨k1, k2⟩ := wrongM_rng hw1
  unfold rWrong at hw
  rw [if_neg (by omega)] at hw
  obtain ⟨k, to_, fr, at_, n⟩ := d
  dsimp only at k1 k2 hw
  obtain rfl | rfl | rfl | rfl | rfl | rfl | rfl : k = 1 ∨ k = 2 ∨ k = 3 ∨ k = 4 ∨ k = 5 ∨ k = 6 ∨ k = 7 := by omega
  · obtain ⟨r, rfl, hr⟩ := to_of hw1 (by decide)
    have h4 := wrongM_n hw1 rfl
    obtain ⟨N, en⟩ := int_nat h4.1
    dsimp only at en h4
    subst en
    have hp := (ok.cn.push (n := N) (by omega)).ok
    have h5 := hp.reg hr (v := (true, (t.σ.objs.length : Int))) (fun _ => ⟨t.σ.objs.length, rfl, by
      show (t.gone ++ [false])[t.σ.objs.length]? = some false
      rw [← ok.lg]; simp⟩)
    refine ⟨?_, fun hb => ?_⟩
    · have e : t.do_ ⟨1, r, fr, at_, N⟩ = ⟨⟨t.σ.regs.set r (true, (t.σ.objs.length : Int)), t.σ.objs ++ [zeroVs N]⟩, t.gone ++ [false], t.gl⟩ := by
        unfold CrA.do_ goneD stepK
        rw [if_pos rfl, if_pos rfl, Int.toNat_natCast, Int.toNat_natCast]
      rw [e]; exact h5
    · have e : crOld ⟨1, r, fr, at_, N⟩ t.σ = rgA t.σ.regs (r : Int) := by unfold crOld; rw [if_pos (.inl rfl)]
      rw [e] at hb ⊢
      obtain ⟨z, ez, hz⟩ := ok.regv hr hb
      refine ⟨z, ez, ?_⟩
      have eg : (t.do_ ⟨1, (r : Int), fr, at_, (N : Int)⟩).gone = t.gone ++ [false] := by unfold CrA.do_ goneD; rw [if_pos rfl]
      rw [eg, List.getElem?_append_left (List.getElem?_eq_some_iff.1 hz).1]
      exact hz
  · obtain ⟨r, rfl, hr⟩ := to_of hw1 (by decide)
    have e : t.do_ ⟨2, r, fr, at_, n⟩ = ⟨⟨t.σ.regs.set r (false, n), t.σ.objs⟩, t.gone, t.gl⟩ := by
      unfold CrA.do_ goneD stepK
      rw [if_neg (by simp), if_pos rfl, if_neg (by simp), Int.toNat_natCast]
    have e2 : crOld ⟨2, r, fr, at_, n⟩ t.σ = rgA t.σ.regs (r : Int) := by unfold crOld; rw [if_pos (.inr (.inl rfl))]
    rw [e, e2]
    exact ⟨ok.reg hr (fun hb => by cases hb), ok.regv hr⟩
  · obtain ⟨r, rfl, hr⟩ := to_of hw1 (by decide)
    obtain ⟨q, rfl, hq⟩ := fr_of hw1 (by decide) (by decide)
    have e : t.do_ ⟨3, r, q, at_, n⟩ = ⟨⟨t.σ.regs.set r (rgA t.σ.regs (q : Int)), t.σ.objs⟩, t.gone, t.gl⟩ := by
      unfold CrA.do_ goneD stepK
      rw [if_neg (by simp), if_neg (by simp), if_pos rfl, if_neg (by simp), Int.toNat_natCast]
    have e2 : crOld ⟨3, r, q, at_, n⟩ t.σ = rgA t.σ.regs (r : Int) := by unfold crOld; rw [if_pos (.inr (.inr (.inl rfl)))]
    rw [e, e2]
    exact ⟨ok.reg hr (ok.regv hq), ok.regv hr⟩
  · obtain ⟨r, rfl, hr⟩ := to_of hw1 (by decide)
    obtain ⟨q, rfl, hq⟩ := fr_of hw1 (by decide) (by decide)
    rw [if_pos rfl] at hw
    obtain ⟨i, j, hv, rfl, hi, hj⟩ := ferr_at ok.m hr hw
    have e : t.do_ ⟨4, r, q, j, n⟩ = ⟨⟨t.σ.regs, t.σ.objs.set i ((obA t.σ.objs (i : Int)).set j (rgA t.σ.regs (q : Int)))⟩, t.gone, t.gl⟩ := by
      unfold CrA.do_ goneD stepK
      rw [if_neg (by simp), if_neg (by simp), if_neg (by simp), if_pos rfl, if_neg (show ¬ fErr t.σ.objs (rgA t.σ.regs (r : Int)) (j : Int) ≠ 0 from fun h => h hw), if_neg (by simp)]
      dsimp only
      rw [hv]
      dsimp only
      rw [Int.toNat_natCast, Int.toNat_natCast]
    have e2 : crOld ⟨4, r, q, j, n⟩ t.σ = (obA t.σ.objs (i : Int))[j] := by
      unfold crOld
      rw [if_neg (by simp), if_pos rfl]
      dsimp only
      rw [hv]
      dsimp only
      rw [Int.toNat_natCast, List.getD_eq_getElem?_getD, List.getElem?_eq_getElem hj]; rfl
    have e3 : (stepK ⟨4, r, q, j, n⟩ t.σ).2 = ⟨t.σ.regs, t.σ.objs.set i ((obA t.σ.objs (i : Int)).set j (rgA t.σ.regs (q : Int)))⟩ := congrArg CrA.σ e
    rw [e3] at hmm
    rw [e, e2]
    refine ⟨ok.rep (u := (obA t.σ.objs (i : Int))[j]) (v := rgA t.σ.regs (q : Int)) hmm (List.length_set ..) (fun x => ?_) (ok.regv hq), ok.fldv hi (List.getElem_mem hj)⟩
    have q1 := ptsO_set (j := x) ((obA t.σ.objs (i : Int)).set j (rgA t.σ.regs (q : Int))) (ob_at hi)
    have q2 := occ_set (j := x) (rgA t.σ.regs (q : Int)) (List.getElem?_eq_getElem hj)
    unfold pts
    dsimp only
    omega
  · obtain ⟨r, rfl, hr⟩ := to_of hw1 (by decide)
    obtain ⟨q, rfl, hq⟩ := fr_of hw1 (by decide) (by decide)
    rw [if_neg (by simp), if_pos rfl] at hw
    obtain ⟨i, j, hv, rfl, hi, hj⟩ := ferr_at ok.m hq hw
    have e : t.do_ ⟨5, r, q, j, n⟩ = ⟨⟨t.σ.regs.set r ((obA t.σ.objs (i : Int))[j]), t.σ.objs⟩, t.gone, t.gl⟩ := by
      unfold CrA.do_ goneD stepK
      rw [if_neg (by simp), if_neg (by simp), if_neg (by simp), if_neg (by simp), if_pos rfl, if_neg (show ¬ fErr t.σ.objs (rgA t.σ.regs (q : Int)) (j : Int) ≠ 0 from fun h => h hw), if_neg (by simp)]
      dsimp only
      rw [hv]
      dsimp only
      rw [Int.toNat_natCast, Int.toNat_natCast, List.getD_eq_getElem?_getD, List.getElem?_eq_getElem hj]; rfl
    have e2 : crOld ⟨5, r, q, j, n⟩ t.σ = rgA t.σ.regs (r : Int) := by unfold crOld; rw [if_pos (.inr (.inr (.inr rfl)))]
    rw [e, e2]
    exact ⟨ok.reg hr (ok.fldv hi (List.getElem_mem hj)), ok.regv hr⟩
  · have e : t.do_ ⟨6, to_, fr, at_, n⟩ = t := by
      unfold CrA.do_ goneD stepK
      rw [if_neg (by simp), if_neg (by simp), if_neg (by simp), if_neg (by simp), if_neg (by simp), if_pos rfl, if_neg (show ¬ (6 : Int) = 1 by decide)]
    have e2 : crOld ⟨6, to_, fr, at_, n⟩ t.σ = (false, 0) := by unfold crOld; rw [if_neg (by simp), if_neg (by simp)]
    rw [e, e2]
    exact ⟨ok, fun hb => by cases hb⟩
  · have e : t.do_ ⟨7, to_, fr, at_, n⟩ = t := by
      unfold CrA.do_ goneD stepK
      rw [if_neg (by simp), if_neg (by simp), if_neg (by simp), if_neg (by simp), if_neg (by simp), if_neg (show ¬ (7 : Int) = 6 by decide), if_neg (show ¬ (7 : Int) = 1 by decide)]
    have e2 : crOld ⟨7, to_, fr, at_, n⟩ t.σ = (false, 0) := by unfold crOld; rw [if_neg (by simp), if_neg (by simp)]
    rw [e, e2]
    exact ⟨ok, fun hb => by cases hb⟩
theorem cr_beg_at {σ : MSt} (hM : MOk σ) (k : Nat) (hk : k ≤ σ.objs.length) : CrOk (crBeg σ k) ∧ (crBeg σ k).σ.objs.length = σ.objs.length ∧ (crBeg σ k).gl.length + (crBeg σ k).ng ≤ σ.objs.length := by
  obtain ⟨h1, h2, h3, _⟩ := cnBeg_ok hM k hk
  have h4 := h2.gb
  rw [h1.s.gl, h1.num, h3] at h4
  exact ⟨h1.ok, h1.n.symm.trans h3, h4⟩
theorem cr_run_at {σ : MSt} (hM : MOk σ) (R : Int) (ds : List DoV) (k : Nat) (hk : k ≤ ds.length) : CrOk (crRun R (ds.take k) (crBeg σ σ.objs.length)).2 ∧ (crRun R (ds.take k) (crBeg σ σ.objs.length)).2.σ.objs.length ≤ σ.objs.length + k ∧ (crRun R (ds.take k) (crBeg σ σ.objs.length)).2.gl.length + (crRun R (ds.take k) (crBeg σ σ.objs.length)).2.ng ≤ σ.objs.length + k ∧ (crRun R (ds.take k) (crBeg σ σ.objs.length)).1.length = k := by
  obtain ⟨h1, h2, h3, _⟩ := cnBeg_ok hM σ.objs.length (Nat.le_refl _)
  obtain ⟨r1, r2, r3, r4, r5⟩ := cn_run R ds h1 h2 k hk
  have h4 := r3.gb
  rw [r2.s.gl, r2.num, r2.n] at h4
  rw [r2.n] at r4
  exact ⟨r2.ok, by omega, by omega, by rw [← r1]; exact r5⟩
end Go.Proofs.Ytjphckfbbiehdaa

namespace Go.Proofs.Ytjphckfbbiehdaa
open Go.RowKit

theorem thereG_len (gone : List Bool) : (thereG gone).length = gone.countP fun g => !g := by
  have gen : ∀ k, k ≤ gone.length → (thereK (goneO gone) k).length = (gone.take k).countP fun g => !g := by
    intro k
    induction k with
    | zero => intro _; simp [thereK]
    | succ k ih =>
      intro hk
      rw [thereG_succ gone hk, List.length_append, ih (by omega), List.take_succ_eq_append_getElem hk, List.countP_append]
      cases gone[k] <;> rfl
  have h := gen gone.length (Nat.le_refl _)
  rw [List.take_length] at h
  rw [thereG_K]; exact h
theorem goes_at {F : Nat → Prop} {W0 w : World} {Bm : Nat} {s : RMem} {A : Option Addr} {c : Nat} {gl : List Int} {L : List Item} {i : Nat} (h : Sep F W0 w (rmI Bm s :: rowI 3 1 A gl.length c (ints gl) :: L)) (ok : CrOk (crA s gl)) (hg : s.gone[i]? = some false) (h0 : pts i (absR s) = 0) (hob : s.obs.length ≤ 600) (hgl : gl.length + (crA s gl).ng ≤ 1000) :
    Calls Try.prog 77 #[.pointer (some ⟨Bm, 0, none⟩), .int .i64 (i : Int), .slice A gl.length c] w fun e w' => ∃ (s' : RMem) (A' : Option Addr) (c' : Nat) (gl' : List Int), e = .returned (.slice A' gl'.length c') ∧ crA s' gl' = goesN (absR s).objs.length (crA s gl) i ∧ Sep F W0 w' (rmI Bm s' :: rowI 3 1 A' gl'.length c' (ints gl') :: L) := by
  have h1 : Sep F W0 w [allI L, rmI Bm s, rowI 3 1 A gl.length c (ints gl)] := Sep.join (l := L) (h.perm (List.perm_append_comm (l₁ := [_, _]) (l₂ := L)))
  have hn := ng_le (crA s gl)
  have hl := ok.lg
  refine (ggoes_any (absR s).objs.length h1 ok hg h0 (by rw [hl] at hn; exact hn) hob hgl).mono ?_
  rintro e w' ⟨s', A', c', gl', he, h2, _, h3⟩
  exact ⟨s', A', c', gl', he, h2, (Sep.split h3).perm (List.perm_append_comm (l₁ := L) (l₂ := [_, _]))⟩
theorem lose_at {F : Nat → Prop} {W0 w : World} {Bm : Nat} {s : RMem} {A : Option Addr} {c : Nat} {gl : List Int} {L : List Item} {v : Val} (h : Sep F W0 w (rmI Bm s :: rowI 3 1 A gl.length c (ints gl) :: L)) (ok : CrOk (crA s gl)) (hv : v.1 = true → ∃ z : Nat, v.2 = (z : Int) ∧ s.gone[z]? = some false) (hob : s.obs.length ≤ 600) (hgl : gl.length + (crA s gl).ng ≤ 1000) :
    Calls Try.prog 82 #[.pointer (some ⟨Bm, 0, none⟩), .agg #[.bool v.1, .int .i64 v.2], .slice A gl.length c] w fun e w' => ∃ (s' : RMem) (A' : Option Addr) (c' : Nat) (gl' : List Int), e = .returned (.slice A' gl'.length c') ∧ crA s' gl' = (crA s gl).lose v ∧ Sep F W0 w' (rmI Bm s' :: rowI 3 1 A' gl'.length c' (ints gl') :: L) := by
  have h1 : Sep F W0 w [allI L, rmI Bm s, rowI 3 1 A gl.length c (ints gl)] := Sep.join (l := L) (h.perm (List.perm_append_comm (l₁ := [_, _]) (l₂ := L)))
  have hn := ng_le (crA s gl)
  have hl := ok.lg
  refine (gloses_any (absR s).objs.length h1 ok hv (by rw [hl] at hn; exact hn) hob hgl).mono ?_
  rintro e w' ⟨s', A', c', gl', he, h2, _, h3⟩
  exact ⟨s', A', c', gl', he, h2, (Sep.split h3).perm (List.perm_append_comm (l₁ := L) (l₂ := [_, _]))⟩
theorem crA_len (s : RMem) (gl : List Int) : (crA s gl).σ.objs.length = s.obs.length := List.length_map ..
theorem cr_rok {s : RMem} {gl : List Int} (ok : CrOk (crA s gl)) (h : s.obs.length ≤ 500) : ROk s := ⟨ok.m, h, ok.lg.trans (crA_len s gl)⟩

set_option maxRecDepth 1000000 in
set_option maxHeartbeats 64000000 in
theorem refCounted_any (w : World) (AO AR Ad : Option Addr) (nO cO nR cR nd cd : Nat) (obs : List Ob) (roots : List Val) (gs : List (List Val)) (ds : List DoV) (R : Int) (hgs : obs.map Ob.fields = gs) (hO : ObsRd w (fun _ => True) AO nO obs) (hR : Rd w (fun _ => True) 2 AR nR (vals roots)) (hnO : nO ≤ 24) (hnR : nR ≤ 8) (h4 : ∀ o ∈ obs, o.n ≤ 4)
    (hM : MOk ⟨padR roots nR, gs⟩) (hD : Rd w (fun _ => True) 5 Ad nd (dosV ds)) (hnd : nd ≤ 100) :
    Calls Try.prog 32 #[.agg #[.slice AO nO cO, .slice AR nR cR], .int .i64 R, .slice Ad nd cd] w fun e w' => ∃ A c A2 n2 c2 A3 n3 c3, e = .returned (.agg #[.slice A nd c, .slice A2 n2 c2, .slice A3 n3 c3]) ∧ Below w.heap.size w w' ∧ Rd w' (fun g => w.heap.size ≤ g) 3 A nd (outsV (crRun R ds (crBeg ⟨padR roots nR, gs⟩ nO)).1) ∧ Rd w' (fun g => w.heap.size ≤ g) 2 A2 n2 (countsV (crThere (crRun R ds (crBeg ⟨padR roots nR, gs⟩ nO)).2)) ∧ Rd w' (fun g => w.heap.size ≤ g) 1 A3 n3 (ints (crRun R ds (crBeg ⟨padR roots nR, gs⟩ nO)).2.gl) := by
  have HDL := hide (show ds.length = nd by have := hD.1; rw [dosV_length] at this; omega)
  have hgl : gs.length = nO := by rw [← hgs, List.length_map]; exact hO.len
  obtain ⟨g, hg⟩ : ∃ g, w.heap.size = g := ⟨_, rfl⟩
  have hS0 := ((Sep.nil No w).blkAt 27 #[.slice AO nO cO, .slice AR nR cR] hg).blkAt 73 #[.slice none 0 0, .slice none 0 0, .slice none 0 0] (g := g + 1) (by simp [hg])
  have CN := hide (fun w' (hb : Below w.heap.size w w') => newMem_any w' AO AR nO cO nR cR obs roots gs hgs (hO.below hb) (hR.below hb) (by omega) hnR h4)
  obtain ⟨σ0, hσ⟩ : ∃ σ, (⟨padR roots nR, gs⟩ : MSt) = σ := ⟨_, rfl⟩
  rw [hσ] at hM ⊢
  simp only [hσ] at CN
  have hso : σ0.objs.length = nO := by rw [← hσ]; exact hgl
  have HSO := hide hso
  have HBA := hide (fun k (hk : k ≤ nO) => cr_beg_at hM k (by rw [hso]; exact hk))
  have HRA := hide (fun k (hk : k ≤ ds.length) => cr_run_at hM R ds k hk)
  rw [hso] at HRA HBA
  obtain ⟨a1, a2, a3, a4⟩ := hS0.rules 0 (g := g) (t := 27) rfl
  have a5 := (a1 0).trans (show _ = some (.slice AO nO cO) from rfl)
  have a6 := (a1 1).trans (show _ = some (.slice AR nR cR) from rfl)
  have HS0 := hide hS0
  have CN0 := hide (CN.out _ hS0.below_)
  clear hgs hO hR h4 hgl hS0 hσ hso hM a1 a4 CN
  go_enter Try.func32, Try.ntmps32
  go_wp2_with fail
  refine CN0.out.mono ?_
  rintro e w1 ⟨Bm, m0, rfl, hab, hgn, hP1⟩
  have hS1 := (row_new HS0.out hP1).nilRow0 3 1
  obtain ⟨gO, hgO⟩ : ∃ x, w1.heap.size = x := ⟨_, rfl⟩
  have hS2 := hS1.blkAtF 73 #[.slice none 0 0, .slice none 0 0, .slice none 0 0] hgO
  have HS2 := hide (hS2.perm (l := [rmI Bm m0, rowI 3 1 none ([] : List Int).length 0 (ints []), blkI gO 73 #[.slice none 0 0, .slice none 0 0, .slice none 0 0], blkI g 27 #[.slice AO nO cO, .slice AR nR cR], blkI (g + 1) 73 #[.slice none 0 0, .slice none 0 0, .slice none 0 0]]) (by
    exact (List.reverse_perm [_, _, _]).symm.append_right [_, _]))
  have HI0 := hide (show crA m0 [] = crBeg σ0 0 from by
    show (⟨absR m0, m0.gone, []⟩ : CrA) = cr0 σ0
    unfold cr0
    rw [hab, hgn, HSO.out])
  clear hP1 hS1 hS2 hab hgn HS0 CN0 a2 a3 a5 a6
  go_wp2_with fail
  go_loopw [9] (fun q wr => ∃ (i : Nat) (s : RMem) (A3 : Option Addr) (c3 : Nat) (gl : List Int), i ≤ nO ∧ q = .int .i64 i ∧ Hid (crA s gl = crBeg σ0 i) ∧ Sep No w wr [rmI Bm s, rowI 3 1 A3 gl.length c3 (ints gl), blkI gO 73 #[.slice none 0 0, .slice none 0 0, .slice A3 gl.length c3], blkI g 27 #[.slice AO nO cO, .slice AR nR cR], blkI (g + 1) 73 #[.slice none 0 0, .slice none 0 0, .slice none 0 0]]) (fun q _ => nO - (intOf q).toNat)
  case atStart => exact ⟨0, m0, none, 0, [], by omega, rfl, HI0.out, HS2.out⟩
  case round =>
    clear HS2 HI0
    obtain ⟨i, s, A3, c3, gl, hi, rfl, HI, hS⟩ := hrel
    obtain ⟨ok, hol, hgb⟩ := HBA.out i hi
    rw [← HI.out] at ok hgb hol
    rw [crA_len] at hol
    replace hgb : gl.length + (crA s gl).ng ≤ nO := hgb
    obtain ⟨l1, l2, l3, _⟩ := hS.rules 3 (g := g) (t := 27) rfl
    have l5 := (l1 0).trans (show _ = some (.slice AO nO cO) from rfl)
    by_cases hlt : i < nO
    · have hgl2 : s.gone.length = nO := (cr_rok ok (by omega)).k.trans hol
      have hig : i < s.gone.length := by omega
      obtain ⟨_, _, m2, m3, _⟩ := rm_mem (hS.get 0 rfl)
      obtain ⟨gg, hgg, hgl', g1, g2, g3⟩ := bools_at (rm_gone (hS.get 0 rfl)) hig
      rw [hgg, hgl2] at m2
      have hga : s.gone[i]? = some s.gone[i] := List.getElem?_eq_getElem hig
      obtain ⟨b, hb⟩ : ∃ b, s.gone[i] = b := ⟨_, rfl⟩
      rw [hb] at g1 hga
      have hbs := crBeg_succ σ0 i
      rw [← HI.out] at hbs
      obtain ⟨scg, hscg⟩ : ∃ x, s.cg = x := ⟨_, rfl⟩
      rw [hscg] at m2
      have HBS := hide hbs
      have HGA := hide hga
      have HS := hide hS
      have q1 : decide ((i : Int) < 0) = false := by simp
      have q2 : decide ((nO : Int) ≤ (i : Int)) = false := by simp; omega
      cases b with
      | true =>
        have HNX := hide (show crA s gl = crBeg σ0 (i + 1) from by
          rw [HBS.out]
          unfold begR
          rw [if_neg]
          rintro ⟨h, _⟩
          rw [List.getD_eq_getElem?_getD, show (crA s gl).gone[i]? = some true from HGA.out] at h
          cases h)
        obtain ⟨ll, hll⟩ : ∃ q, gl.length = q := ⟨_, rfl⟩
        clear ok hol hgb l1 hgl2 hig hgg hgl' hga hb hbs hscg hS HI hll
        go_wp2_with fail
        go_roundw
        case rel => exact ⟨i + 1, s, A3, c3, gl, by omega, by go_num, HNX, HS.out⟩
        case measure => simp [intOf]; omega
      | false =>
        have CP := hide (points_any (hS.get 0 rfl) ok.m.r8 (by omega) (cr_f4 (hS.get 0 rfl) ok) i)
        have CG := hide (fun (h0 : pts i (absR s) = 0) (X : World) (hb : Sep No w X [rmI Bm s, rowI 3 1 A3 gl.length c3 (ints gl), blkI gO 73 #[.slice none 0 0, .slice none 0 0, .slice A3 gl.length c3], blkI g 27 #[.slice AO nO cO, .slice AR nR cR], blkI (g + 1) 73 #[.slice none 0 0, .slice none 0 0, .slice none 0 0]]) => goes_at hb ok HGA.out h0 (by omega) (by omega))
        obtain ⟨p, hp⟩ : ∃ p, pts i (absR s) = p := ⟨_, rfl⟩
        have HP := hide hp
        rw [hp] at CP CG
        have HNB := hide (show p = 0 → ∀ t, t = goesN (absR s).objs.length (crA s gl) i → t = crBeg σ0 (i + 1) from fun h0 t ht => by
          rw [HBS.out]
          unfold begR
          rw [if_pos ⟨by rw [List.getD_eq_getElem?_getD, show (crA s gl).gone[i]? = some false from HGA.out]; rfl, by show pts i (absR s) = 0; rw [hp, h0]⟩]
          exact ht)
        have HNC := hide (show p ≠ 0 → crA s gl = crBeg σ0 (i + 1) from fun h0 => by
          rw [HBS.out]
          unfold begR
          rw [if_neg]
          rintro ⟨_, h⟩
          exact h0 (hp.symm.trans h))
        clear ok hol hgb l1 hgl2 hig hgg hgl' hga hb hbs hscg hS HI hp HBS
        go_wp2_with fail
        refine CP.out.mono ?_
        rintro e w4 ⟨rfl, hb4⟩
        have hS4 := HS.out.below hb4
        obtain ⟨u1, u2, u3, _⟩ := hS4.rules 2 (g := gO) (t := 73) rfl
        have u5 := (u1 2).trans (show _ = some (.slice A3 gl.length c3) from rfl)
        have HS4 := hide hS4
        clear hb4 hS4 HS CP u1 l2 l3 l5 m2 m3 g1 g2 g3
        by_cases hp0 : p = 0
        · have CG0 := hide (CG.out hp0 _ HS4.out)
          have HNX := hide (HNB.out hp0)
          subst hp0
          obtain ⟨ll, hll⟩ : ∃ q, gl.length = q := ⟨_, rfl⟩
          have HLL := hide hll
          rw [hll] at CG0 u5 HS4
          clear hll CG HNB HNC
          go_wp2_with fail
          refine CG0.out.mono ?_
          rintro e w5 ⟨s', A', c', gl', rfl, hab, hS5⟩
          have HA2 := hide (HNX.out _ hab)
          obtain ⟨v1, v2, v3, _⟩ := hS5.rules 2 (g := gO) (t := 73) rfl
          have v5 := (v1 2).trans (show _ = some (.slice A3 ll c3) from rfl)
          have HS5 := hide (hS5.set_ 2 (g := gO) (t := 73) rfl 2 (.slice A' gl'.length c'))
          clear hab hS5 CG0 HNX HS4 v1 u2 u3 u5
          obtain ⟨l2', hl2'⟩ : ∃ q, gl'.length = q := ⟨_, rfl⟩
          have HL2 := hide hl2'
          rw [hl2'] at HS5 ⊢
          clear hl2'
          go_wp2_with fail
          go_roundw
          case rel => exact ⟨i + 1, s', A', c', gl', by omega, by go_num, HA2, by rw [HL2.out]; exact HS5.out⟩
          case measure => simp [intOf]; omega
        · have HNX := hide (HNC.out hp0)
          have y1 : ((p : Int) == 0) = false := by simp [hp0]
          have y2 : decide ((p : Int) = 0) = false := by simp [hp0]
          clear CG HNB HNC hp0
          go_wp2_with fail
          go_roundw
          case rel => exact ⟨i + 1, s, A3, c3, gl, by omega, by go_num, HNX, HS4.out⟩
          case measure => simp [intOf]; omega
    · obtain rfl : i = nO := by omega
      have HI0 := hide (show crA s gl = (crRun R (ds.take 0) (crBeg σ0 i)).2 from by rw [List.take_zero]; exact HI.out)
      have HS2 := hide ((hS.nilRow0 41 3).perm (l := [rmI Bm s, rowI 3 1 A3 gl.length c3 (ints gl), blkI gO 73 #[.slice none 0 0, .slice none 0 0, .slice A3 gl.length c3], rowI 41 3 none 0 0 [], blkI g 27 #[.slice AO i cO, .slice AR nR cR], blkI (g + 1) 73 #[.slice none 0 0, .slice none 0 0, .slice none 0 0]]) (by
        exact (List.perm_append_comm (l₁ := [_]) (l₂ := [_, _, _])).append_right [_, _]))
      clear ok hol hgb l1 hS HI HBA
      go_wp2_with fail
      go_loopw [47] (fun q wr => ∃ (k : Nat) (A : Option Addr) (c : Nat) (s : RMem) (A3 : Option Addr) (c3 : Nat) (gl : List Int), k ≤ nd ∧ q = .int .i64 k ∧ Hid (crA s gl = (crRun R (ds.take k) (crBeg σ0 i)).2) ∧ Sep No w wr [rmI Bm s, rowI 3 1 A3 gl.length c3 (ints gl), blkI gO 73 #[.slice A k c, .slice none 0 0, .slice A3 gl.length c3], rowI 41 3 A k c (outsV (crRun R (ds.take k) (crBeg σ0 i)).1), blkI g 27 #[.slice AO i cO, .slice AR nR cR], blkI (g + 1) 73 #[.slice none 0 0, .slice none 0 0, .slice none 0 0]]) (fun q _ => nd - (intOf q).toNat)
      case atStart => exact ⟨0, none, 0, s, A3, c3, gl, by omega, rfl, HI0.out, HS2.out⟩
      case round =>
        clear HS2 HI0 l2 l3 l5
        obtain ⟨k, A, c, s, A3, c3, gl, hk, rfl, HI, hS⟩ := hrel
        obtain ⟨ok, hol, hgb, hon⟩ := HRA.out k (by have := HDL.out; omega)
        rw [← HI.out] at ok hol hgb
        rw [crA_len] at hol
        replace hgb : gl.length + (crA s gl).ng ≤ i + k := hgb
        have HOK := hide ok
        have HROK := hide (cr_rok ok (by omega))
        by_cases hlt : k < nd
        · have hkl : k < ds.length := by rw [HDL.out]; exact hlt
          obtain ⟨v0, v1, v2, v3, v4⟩ := dosV_at ds k hkl
          obtain ⟨ad, hA, _, had, hc, hd⟩ := (hD.below hS.below_).atN hlt
          have e0 := hc _ v0
          have e1 := hd 0 _ v1
          have e2 := hd 1 _ v2
          have e3 := hd 2 _ v3
          have e4 := hd 3 _ v4
          have hrs := crRun_at R ds (crBeg σ0 i) k hkl
          rw [← HI.out] at hrs
          obtain ⟨d, hd'⟩ : ∃ d, ds[k] = d := ⟨_, rfl⟩
          rw [hd'] at e0 e1 e2 e3 e4 hrs
          obtain ⟨gd, hgd⟩ : ∃ x, wr.heap.size = x := ⟨_, rfl⟩
          have hS2 := hS.blkAt 39 d.cells hgd
          have CW := rwrong_any (hS2.get 0 rfl) HROK.out d
          obtain ⟨dk, dto, dfr, dat, dn⟩ := d
          unfold DoV.cells at CW hS2
          dsimp only at CW hS2 e0 e1 e2 e3 e4
          have HCW := hide CW
          have HS2 := hide hS2
          have HRS := hide hrs
          subst hA
          clear hc hd v0 v1 v2 v3 v4 hrs hd' hS2 hS ok hon CW HI hkl
          go_wp2_with fail
          refine HCW.out.mono ?_
          rintro e w2 ⟨rfl, hb2⟩
          have hS3 := HS2.out.below hb2
          obtain ⟨z1, z2, z3, -⟩ := hS3.rules 6 (g := gd) (t := 39) rfl
          have z5 := (z1 0).trans (show _ = some (.int .i64 dk) from rfl)
          have z6 := (z1 1).trans (show _ = some (.int .i64 dto) from rfl)
          have z7 := (z1 2).trans (show _ = some (.int .i64 dfr) from rfl)
          have z8 := (z1 3).trans (show _ = some (.int .i64 dat) from rfl)
          have z9 := (z1 4).trans (show _ = some (.int .i64 dn) from rfl)
          have HSX := hide hS3
          clear z1 hS3 hb2 HS2 HCW e0 e1 e2 e3 e4 had
          obtain ⟨x, hx⟩ : ∃ x, rWrong ⟨dk, dto, dfr, dat, dn⟩ (absR s) = x := ⟨_, rfl⟩
          have HX := hide hx
          rw [hx]
          clear hx
          by_cases hx0 : x = 0
          · subst hx0
            have HZ := HX
            by_cases hk1 : dk = 1
            · subst hk1
              have CT := hide (rthere_any (HSX.out.get 0 rfl) (by have := HROK.out.k; omega))
              have HTN := hide (show (thereG s.gone).length = (crA s gl).ng from thereG_len s.gone)
              rw [HTN.out] at CT
              have hng : (crA s gl).ng ≤ 1000 := by omega
              obtain ⟨m, hm⟩ : ∃ m, (crA s gl).ng = m := ⟨_, rfl⟩
              have HM := hide hm
              rw [hm] at CT hng
              clear hm HTN
              go_wp2_with fail
              refine CT.out.mono ?_
              rintro e w3 ⟨rfl, hb3⟩
              have hS4 := HSX.out.below hb3
              clear HSX CT
              have HSX := hide hS4
              obtain ⟨z1, z2, z3, -⟩ := hS4.rules 6 (g := gd) (t := 39) rfl
              have z5 := (z1 0).trans (show _ = some (.int .i64 1) from rfl)
              have z6 := (z1 1).trans (show _ = some (.int .i64 dto) from rfl)
              have z7 := (z1 2).trans (show _ = some (.int .i64 dfr) from rfl)
              have z8 := (z1 3).trans (show _ = some (.int .i64 dat) from rfl)
              have z9 := (z1 4).trans (show _ = some (.int .i64 dn) from rfl)
              clear z1 hS4 hb3
              by_cases hR : R ≤ (m : Int)
              · have t1 : decide (R ≤ (m : Int)) = true := by simp [hR]
                have HER := hide (show crErr R ⟨1, dto, dfr, dat, dn⟩ (crA s gl) = 6 from by unfold crErr; rw [if_pos ⟨HZ.out, rfl, by rw [HM.out]; exact hR⟩])
                have HNE := hide (show (6 : Int) ≠ 0 by decide)
                have hrs := HRS.out
                rw [show crStep R ⟨1, dto, dfr, dat, dn⟩ (crA s gl) = (⟨6, false, 0⟩, crA s gl) from by unfold crStep; rw [HER.out, if_pos HNE.out]] at hrs
                have HRS2 := hide hrs
                obtain ⟨x1, x2, x3, -⟩ := HSX.out.rules 2 (g := gO) (t := 73) rfl
                have x5 := (x1 0).trans (show _ = some (.slice A k c) from rfl)
                clear hrs x1
                go_wp2_with (first
                  | (at_builtin
                     refine wpList_app1 (cs := #[.int .i64 6, .bool false, .int .i64 0]) rfl (.tmp 70) (.tmp 73) 23 rfl (F := No) (W := w) sOut (items := _ :: _ :: _ :: _ :: _ :: _ :: _) HSX.out 3 (n := k) rfl rfl rfl (by simp) rfl rfl (by omega) ?_
                     intro A6 c6 w6 hS6 hC6
                     obtain ⟨u1, u2, u3, _⟩ := hS6.rules 2 (g := gO) (t := 73) rfl))
                have hS7 := hS6.set_ 2 (g := gO) (t := 73) rfl 0 (.slice A6 (k + 1) c6)
                have HS7 := hide (hS7.sub (l := [_, _, _, _, _, _]) (List.sublist_append_left [_, _, _, _, _, _] [_]))
                clear hS6 hC6 hS7 u1 HSX
                go_roundw
                case rel => exact ⟨k + 1, A6, c6, s, A3, c3, gl, by omega, by go_num, by rw [HRS2.out]; exact hide rfl, by
                  rw [HRS2.out]
                  dsimp only
                  rw [outsV_app, outsV_one]
                  exact HS7.out⟩
                case measure => simp [intOf]; omega
              · have t1 : decide (R ≤ (m : Int)) = false := by simp only [hR, decide_false]
                have HER := hide (show crErr R ⟨1, dto, dfr, dat, dn⟩ (crA s gl) = 0 from by unfold crErr; rw [if_neg (fun h => hR (by have h2 := h.2.2; rw [HM.out] at h2; exact h2))]; exact HZ.out)
                clear hR
                have CO := hide (old_any (HSX.out.get 0 rfl) HROK.out ⟨1, dto, dfr, dat, dn⟩ HZ.out)
                unfold OldOk at CO
                obtain ⟨ov, hov⟩ : ∃ v, crOld ⟨1, dto, dfr, dat, dn⟩ (absR s) = v := ⟨_, rfl⟩
                rw [hov] at CO
                have HOV := hide hov
                unfold DoV.cells at CO
                dsimp only at CO
                clear hov
                go_wp2_with fail
                refine CO.out.mono ?_
                rintro e w5 ⟨rfl, hb5⟩
                obtain ⟨gv, hgv⟩ : ∃ x, w5.heap.size = x := ⟨_, rfl⟩
                have hS5 := HSX.out.below hb5
                obtain ⟨z1, z2, z3, -⟩ := hS5.rules 6 (g := gd) (t := 39) rfl
                have z5 := (z1 0).trans (show _ = some (.int .i64 1) from rfl)
                have z6 := (z1 1).trans (show _ = some (.int .i64 dto) from rfl)
                have z7 := (z1 2).trans (show _ = some (.int .i64 dfr) from rfl)
                have z8 := (z1 3).trans (show _ = some (.int .i64 dat) from rfl)
                have z9 := (z1 4).trans (show _ = some (.int .i64 dn) from rfl)
                have hS6 := hS5.blkAt 107 #[.bool ov.1, .int .i64 ov.2] hgv
                have hgO5 := hS5.hi 2 rfl gO rfl
                have hgd5 := hS5.hi 6 rfl gd rfl
                have n1 : gO ≠ gv := by omega
                have n2 : gv ≠ gO := by omega
                have n3 : gd ≠ gv := by omega
                have n4 : gv ≠ gd := by omega
                obtain ⟨X, hX⟩ : ∃ X, w5.alloc (.cells #[.bool ov.1, .int .i64 ov.2] 107) = X := ⟨_, rfl⟩
                rw [hX] at hS6
                obtain ⟨x1, x2, x3, -⟩ := hS6.rules 2 (g := gO) (t := 73) rfl
                have x5 := (x1 0).trans (show _ = some (.slice A k c) from rfl)
                obtain ⟨y1, y2, y3, -⟩ := hS6.rules 6 (g := gd) (t := 39) rfl
                have y5 := (y1 0).trans (show _ = some (.int .i64 1) from rfl)
                have y6 := (y1 1).trans (show _ = some (.int .i64 dto) from rfl)
                have y7 := (y1 2).trans (show _ = some (.int .i64 dfr) from rfl)
                have y8 := (y1 3).trans (show _ = some (.int .i64 dat) from rfl)
                have y9 := (y1 4).trans (show _ = some (.int .i64 dn) from rfl)
                have CD := rdo_any (hS6.drew.get 0 rfl) HROK.out ⟨1, dto, dfr, dat, dn⟩ HZ.out
                unfold RDoOk at CD
                have hst : (crStep R ⟨1, dto, dfr, dat, dn⟩ (crA s gl)) = ((stepK ⟨1, dto, dfr, dat, dn⟩ (absR s)).1, ((crA s gl).do_ ⟨1, dto, dfr, dat, dn⟩).lose ov) := by
                  unfold crStep
                  rw [if_neg (by rw [HER.out]; exact fun h => h rfl), ← HOV.out]
                  rfl
                have hdo := cr_do_ok HOK.out (d := ⟨1, dto, dfr, dat, dn⟩) HZ.out
                have hsl := stepK_len ⟨1, dto, dfr, dat, dn⟩ (absR s)
                have hrs := HRS.out
                rw [hst] at hrs
                have HDOA := hide (show ∀ s' : RMem, absR s' = (stepK ⟨1, dto, dfr, dat, dn⟩ (absR s)).2 → s'.gone = goneD ⟨1, dto, dfr, dat, dn⟩ s.gone → crA s' gl = (crA s gl).do_ ⟨1, dto, dfr, dat, dn⟩ from fun s' h1 h2 => by
                  unfold crA CrA.do_
                  rw [h1, h2])
                have HDO := hide (show CrOk ((crA s gl).do_ ⟨1, dto, dfr, dat, dn⟩) ∧ (ov.1 = true → ∃ z : Nat, ov.2 = (z : Int) ∧ (goneD ⟨1, dto, dfr, dat, dn⟩ s.gone)[z]? = some false) from ⟨hdo.1, fun hb => by rw [← HOV.out] at hb ⊢; exact hdo.2 hb⟩)
                have HLE := hide (show (stepK ⟨1, dto, dfr, dat, dn⟩ (absR s)).2.objs.length ≤ i + k + 1 from by
                  have h1 : (absR s).objs.length = s.obs.length := List.length_map ..
                  split at hsl <;> omega)
                have HNG := hide (show gl.length + ((crA s gl).do_ ⟨1, dto, dfr, dat, dn⟩).ng ≤ 1000 from by
                  have h1 : ((crA s gl).do_ ⟨1, dto, dfr, dat, dn⟩).ng ≤ (goneD ⟨1, dto, dfr, dat, dn⟩ s.gone).length := List.countP_le_length
                  have h2 : (goneD ⟨1, dto, dfr, dat, dn⟩ s.gone).length ≤ s.gone.length + 1 := by unfold goneD; split <;> simp
                  have h3 := HROK.out.k
                  omega)
                have HRS2 := hide hrs
                obtain ⟨⟨⟨oc, orf, on⟩, σ'⟩, hsk⟩ : ∃ p, stepK ⟨1, dto, dfr, dat, dn⟩ (absR s) = p := ⟨_, rfl⟩
                simp only [hsk] at CD HRS2 HDOA HLE
                unfold OutV.val at CD
                unfold DoV.cells at CD
                dsimp only at CD HRS2 HDOA HLE
                have HCD := hide CD
                have HS6 := hide hS6
                clear hst hdo hsl hrs hsk CD hS6 hS5 hb5 z1 x1 y1 HSX CO HRS HOV HER
                go_wp2_with fail
                try rw [hX]
                clear hX z2 z3 z5 z6 z7 z8 z9
                go_region_law (first
                  | (try go_simp
                     go_at_call 81
                     (with_reducible refine HCD.out.mono ?_)
                     rintro e w8 ⟨s', rfl, hab, hP8, -, hgn⟩
                     (have hS8 := HS6.out.drew.call 0 rfl hP8)
                     obtain ⟨q1, q2, q3, -⟩ := hS8.rules 2 (g := gO) (t := 73) rfl
                     (have q5 := (q1 0).trans (show _ = some (.slice A k c) from rfl))
                     (have HS8 := hide hS8)
                     (have HAB := hide hab)
                     (have HGN := hide hgn)
                     (have q6 := (World.cell?_alloc_lt w8 (.cells #[.int .i64 oc, .bool orf, .int .i64 on] 41) _ q3).trans q5)
                     clear hS8 hP8 hab hgn q1)
                  | (refine step_app1 (cs := #[.int .i64 oc, .bool orf, .int .i64 on]) rfl (.tmp 80) (.tmp 84) 23 rfl (F := No) (W := w) sOut (items := _ :: _ :: _ :: _ :: _ :: _ :: _ :: _) HS8.out 3 (n := k) rfl rfl rfl (by simp) rfl rfl (by omega) ?_
                     intro A7 c7 w9 hS9 hC9
                     obtain ⟨u1, u2, u3, -⟩ := hS9.rules 2 (g := gO) (t := 73) rfl
                     (have u5 := (u1 0).trans (show _ = some (.slice A k c) from rfl))
                     clear u1 hC9))
                all_goals
                  have hS10 := hS9.set_ 2 (g := gO) (t := 73) rfl 0 (.slice A7 (k + 1) c7)
                  obtain ⟨Y, hY⟩ : ∃ Y, w9.setCell ⟨gO, 0, none⟩ (.slice A7 (k + 1) c7) = Y := ⟨_, rfl⟩
                  rw [hY] at hS10
                  try rw [hY]
                  have hA10 := HDOA.out s' HAB.out HGN.out
                  have hsl : s'.obs.length ≤ i + k + 1 := by
                    have h1 : (absR s').objs.length = s'.obs.length := List.length_map ..
                    rw [HAB.out] at h1
                    have h2 := HLE.out
                    omega
                  have CL := lose_at hS10 (by rw [hA10]; exact HDO.out.1) (fun hb => by rw [HGN.out]; exact HDO.out.2 hb) (by omega) (by rw [hA10]; exact HNG.out)
                  rw [hA10] at CL
                  have HCL := hide CL
                  obtain ⟨p1, p2, p3, -⟩ := hS10.rules 2 (g := gO) (t := 73) rfl
                  have p5 := (p1 2).trans (show _ = some (.slice A3 gl.length c3) from rfl)
                  obtain ⟨v1, v2, v3, -⟩ := hS10.rules 7 (g := gv) (t := 107) rfl
                  have v5 := (v1 0).trans (show _ = some (.bool ov.1) from rfl)
                  have v6 := (v1 1).trans (show _ = some (.int .i64 ov.2) from rfl)
                  obtain ⟨ll, hll⟩ : ∃ q, gl.length = q := ⟨_, rfl⟩
                  rw [hll] at p5 HCL
                  clear hS9 hS10 hA10 CL p1 v1 hsl HS8 hll
                  try clear hY
                  try clear q2
                  try clear q3
                  try clear q5
                  try clear q6
                  try clear x2
                  try clear x3
                  try clear x5
                  go_wp2_with fail
                  refine HCL.out.mono ?_
                  rintro e w11 ⟨s2, A4, c4, gl2, rfl, hab2, hS11⟩
                  obtain ⟨r1, r2, r3, -⟩ := hS11.rules 2 (g := gO) (t := 73) rfl
                  have r5 := (r1 2).trans (show _ = some (.slice A3 ll c3) from rfl)
                  have HS12 := hide ((hS11.set_ 2 (g := gO) (t := 73) rfl 2 (.slice A4 gl2.length c4)).sub (l := [_, _, _, _, _, _]) (List.sublist_append_left [_, _, _, _, _, _] [_, _]))
                  have HAB2 := hide hab2
                  obtain ⟨l2, hl2⟩ : ∃ q, gl2.length = q := ⟨_, rfl⟩
                  have HL2 := hide hl2
                  rw [hl2] at HS12 ⊢
                  clear hS11 hab2 r1 hl2 HCL
                  go_wp2_with fail
                  go_roundw
                  case rel => exact ⟨k + 1, A7, c7, s2, A4, c4, gl2, by omega, by go_num, by rw [HRS2.out]; exact HAB2, by
                    rw [HRS2.out, HL2.out]
                    dsimp only
                    rw [outsV_app, outsV_one]
                    exact HS12.out⟩
                  case measure => simp [intOf]; omega
            · have y1' : (dk == 1) = false := by simp [hk1]
              have HER := hide (show crErr R ⟨dk, dto, dfr, dat, dn⟩ (crA s gl) = 0 from by unfold crErr; rw [if_neg (fun h => hk1 h.2.1)]; exact HZ.out)
              clear hk1
              have CO := hide (old_any (HSX.out.get 0 rfl) HROK.out ⟨dk, dto, dfr, dat, dn⟩ HZ.out)
              unfold OldOk at CO
              obtain ⟨ov, hov⟩ : ∃ v, crOld ⟨dk, dto, dfr, dat, dn⟩ (absR s) = v := ⟨_, rfl⟩
              rw [hov] at CO
              have HOV := hide hov
              unfold DoV.cells at CO
              dsimp only at CO
              clear hov
              go_wp2_with fail
              refine CO.out.mono ?_
              rintro e w5 ⟨rfl, hb5⟩
              obtain ⟨gv, hgv⟩ : ∃ x, w5.heap.size = x := ⟨_, rfl⟩
              have hS5 := HSX.out.below hb5
              obtain ⟨z1, z2, z3, -⟩ := hS5.rules 6 (g := gd) (t := 39) rfl
              have z5 := (z1 0).trans (show _ = some (.int .i64 dk) from rfl)
              have z6 := (z1 1).trans (show _ = some (.int .i64 dto) from rfl)
              have z7 := (z1 2).trans (show _ = some (.int .i64 dfr) from rfl)
              have z8 := (z1 3).trans (show _ = some (.int .i64 dat) from rfl)
              have z9 := (z1 4).trans (show _ = some (.int .i64 dn) from rfl)
              have hS6 := hS5.blkAt 107 #[.bool ov.1, .int .i64 ov.2] hgv
              have hgO5 := hS5.hi 2 rfl gO rfl
              have hgd5 := hS5.hi 6 rfl gd rfl
              have n1 : gO ≠ gv := by omega
              have n2 : gv ≠ gO := by omega
              have n3 : gd ≠ gv := by omega
              have n4 : gv ≠ gd := by omega
              obtain ⟨X, hX⟩ : ∃ X, w5.alloc (.cells #[.bool ov.1, .int .i64 ov.2] 107) = X := ⟨_, rfl⟩
              rw [hX] at hS6
              obtain ⟨x1, x2, x3, -⟩ := hS6.rules 2 (g := gO) (t := 73) rfl
              have x5 := (x1 0).trans (show _ = some (.slice A k c) from rfl)
              obtain ⟨y1, y2, y3, -⟩ := hS6.rules 6 (g := gd) (t := 39) rfl
              have y5 := (y1 0).trans (show _ = some (.int .i64 dk) from rfl)
              have y6 := (y1 1).trans (show _ = some (.int .i64 dto) from rfl)
              have y7 := (y1 2).trans (show _ = some (.int .i64 dfr) from rfl)
              have y8 := (y1 3).trans (show _ = some (.int .i64 dat) from rfl)
              have y9 := (y1 4).trans (show _ = some (.int .i64 dn) from rfl)
              have CD := rdo_any (hS6.drew.get 0 rfl) HROK.out ⟨dk, dto, dfr, dat, dn⟩ HZ.out
              unfold RDoOk at CD
              have hst : (crStep R ⟨dk, dto, dfr, dat, dn⟩ (crA s gl)) = ((stepK ⟨dk, dto, dfr, dat, dn⟩ (absR s)).1, ((crA s gl).do_ ⟨dk, dto, dfr, dat, dn⟩).lose ov) := by
                unfold crStep
                rw [if_neg (by rw [HER.out]; exact fun h => h rfl), ← HOV.out]
                rfl
              have hdo := cr_do_ok HOK.out (d := ⟨dk, dto, dfr, dat, dn⟩) HZ.out
              have hsl := stepK_len ⟨dk, dto, dfr, dat, dn⟩ (absR s)
              have hrs := HRS.out
              rw [hst] at hrs
              have HDOA := hide (show ∀ s' : RMem, absR s' = (stepK ⟨dk, dto, dfr, dat, dn⟩ (absR s)).2 → s'.gone = goneD ⟨dk, dto, dfr, dat, dn⟩ s.gone → crA s' gl = (crA s gl).do_ ⟨dk, dto, dfr, dat, dn⟩ from fun s' h1 h2 => by
                unfold crA CrA.do_
                rw [h1, h2])
              have HDO := hide (show CrOk ((crA s gl).do_ ⟨dk, dto, dfr, dat, dn⟩) ∧ (ov.1 = true → ∃ z : Nat, ov.2 = (z : Int) ∧ (goneD ⟨dk, dto, dfr, dat, dn⟩ s.gone)[z]? = some false) from ⟨hdo.1, fun hb => by rw [← HOV.out] at hb ⊢; exact hdo.2 hb⟩)
              have HLE := hide (show (stepK ⟨dk, dto, dfr, dat, dn⟩ (absR s)).2.objs.length ≤ i + k + 1 from by
                have h1 : (absR s).objs.length = s.obs.length := List.length_map ..
                split at hsl <;> omega)
              have HNG := hide (show gl.length + ((crA s gl).do_ ⟨dk, dto, dfr, dat, dn⟩).ng ≤ 1000 from by
                have h1 : ((crA s gl).do_ ⟨dk, dto, dfr, dat, dn⟩).ng ≤ (goneD ⟨dk, dto, dfr, dat, dn⟩ s.gone).length := List.countP_le_length
                have h2 : (goneD ⟨dk, dto, dfr, dat, dn⟩ s.gone).length ≤ s.gone.length + 1 := by unfold goneD; split <;> simp
                have h3 := HROK.out.k
                omega)
              have HRS2 := hide hrs
              obtain ⟨⟨⟨oc, orf, on⟩, σ'⟩, hsk⟩ : ∃ p, stepK ⟨dk, dto, dfr, dat, dn⟩ (absR s) = p := ⟨_, rfl⟩
              simp only [hsk] at CD HRS2 HDOA HLE
              unfold OutV.val at CD
              unfold DoV.cells at CD
              dsimp only at CD HRS2 HDOA HLE
              have HCD := hide CD
              have HS6 := hide hS6
              clear hst hdo hsl hrs hsk CD hS6 hS5 hb5 z1 x1 y1 HSX CO HRS HOV HER
              go_wp2_with fail
              try rw [hX]
              clear hX z2 z3 z5 z6 z7 z8 z9
              go_region_law (first
                | (try go_simp
                   go_at_call 81
                   (with_reducible refine HCD.out.mono ?_)
                   rintro e w8 ⟨s', rfl, hab, hP8, -, hgn⟩
                   (have hS8 := HS6.out.drew.call 0 rfl hP8)
                   obtain ⟨q1, q2, q3, -⟩ := hS8.rules 2 (g := gO) (t := 73) rfl
                   (have q5 := (q1 0).trans (show _ = some (.slice A k c) from rfl))
                   (have HS8 := hide hS8)
                   (have HAB := hide hab)
                   (have HGN := hide hgn)
                   (have q6 := (World.cell?_alloc_lt w8 (.cells #[.int .i64 oc, .bool orf, .int .i64 on] 41) _ q3).trans q5)
                   clear hS8 hP8 hab hgn q1)
                | (refine step_app1 (cs := #[.int .i64 oc, .bool orf, .int .i64 on]) rfl (.tmp 80) (.tmp 84) 23 rfl (F := No) (W := w) sOut (items := _ :: _ :: _ :: _ :: _ :: _ :: _ :: _) HS8.out 3 (n := k) rfl rfl rfl (by simp) rfl rfl (by omega) ?_
                   intro A7 c7 w9 hS9 hC9
                   obtain ⟨u1, u2, u3, -⟩ := hS9.rules 2 (g := gO) (t := 73) rfl
                   (have u5 := (u1 0).trans (show _ = some (.slice A k c) from rfl))
                   clear u1 hC9))
              all_goals
                have hS10 := hS9.set_ 2 (g := gO) (t := 73) rfl 0 (.slice A7 (k + 1) c7)
                obtain ⟨Y, hY⟩ : ∃ Y, w9.setCell ⟨gO, 0, none⟩ (.slice A7 (k + 1) c7) = Y := ⟨_, rfl⟩
                rw [hY] at hS10
                try rw [hY]
                have hA10 := HDOA.out s' HAB.out HGN.out
                have hsl : s'.obs.length ≤ i + k + 1 := by
                  have h1 : (absR s').objs.length = s'.obs.length := List.length_map ..
                  rw [HAB.out] at h1
                  have h2 := HLE.out
                  omega
                have CL := lose_at hS10 (by rw [hA10]; exact HDO.out.1) (fun hb => by rw [HGN.out]; exact HDO.out.2 hb) (by omega) (by rw [hA10]; exact HNG.out)
                rw [hA10] at CL
                have HCL := hide CL
                obtain ⟨p1, p2, p3, -⟩ := hS10.rules 2 (g := gO) (t := 73) rfl
                have p5 := (p1 2).trans (show _ = some (.slice A3 gl.length c3) from rfl)
                obtain ⟨v1, v2, v3, -⟩ := hS10.rules 7 (g := gv) (t := 107) rfl
                have v5 := (v1 0).trans (show _ = some (.bool ov.1) from rfl)
                have v6 := (v1 1).trans (show _ = some (.int .i64 ov.2) from rfl)
                obtain ⟨ll, hll⟩ : ∃ q, gl.length = q := ⟨_, rfl⟩
                rw [hll] at p5 HCL
                clear hS9 hS10 hA10 CL p1 v1 hsl HS8 hll
                try clear hY
                try clear q2
                try clear q3
                try clear q5
                try clear q6
                try clear x2
                try clear x3
                try clear x5
                go_wp2_with fail
                refine HCL.out.mono ?_
                rintro e w11 ⟨s2, A4, c4, gl2, rfl, hab2, hS11⟩
                obtain ⟨r1, r2, r3, -⟩ := hS11.rules 2 (g := gO) (t := 73) rfl
                have r5 := (r1 2).trans (show _ = some (.slice A3 ll c3) from rfl)
                have HS12 := hide ((hS11.set_ 2 (g := gO) (t := 73) rfl 2 (.slice A4 gl2.length c4)).sub (l := [_, _, _, _, _, _]) (List.sublist_append_left [_, _, _, _, _, _] [_, _]))
                have HAB2 := hide hab2
                obtain ⟨l2, hl2⟩ : ∃ q, gl2.length = q := ⟨_, rfl⟩
                have HL2 := hide hl2
                rw [hl2] at HS12 ⊢
                clear hS11 hab2 r1 hl2 HCL
                go_wp2_with fail
                go_roundw
                case rel => exact ⟨k + 1, A7, c7, s2, A4, c4, gl2, by omega, by go_num, by rw [HRS2.out]; exact HAB2, by
                  rw [HRS2.out, HL2.out]
                  dsimp only
                  rw [outsV_app, outsV_one]
                  exact HS12.out⟩
                case measure => simp [intOf]; omega
          · have HER := hide (show crErr R ⟨dk, dto, dfr, dat, dn⟩ (crA s gl) = x from by unfold crErr; rw [if_neg (fun h => hx0 (HX.out.symm.trans h.1))]; exact HX.out)
            have HNE := hide hx0
            have y1' : (x == 0) = false := by simp [hx0]
            have y2' : decide (x = 0) = false := by simp [hx0]
            have y3' : (x != 0) = true := by simp [hx0]
            clear hx0
            have hrs := HRS.out
            rw [show crStep R ⟨dk, dto, dfr, dat, dn⟩ (crA s gl) = (⟨x, false, 0⟩, crA s gl) from by unfold crStep; rw [HER.out, if_pos HNE.out]] at hrs
            have HRS2 := hide hrs
            obtain ⟨x1, x2, x3, -⟩ := HSX.out.rules 2 (g := gO) (t := 73) rfl
            have x5 := (x1 0).trans (show _ = some (.slice A k c) from rfl)
            clear hrs x1
            go_wp2_with (first
              | (at_builtin
                 refine wpList_app1 (cs := #[.int .i64 x, .bool false, .int .i64 0]) rfl (.tmp 70) (.tmp 73) 23 rfl (F := No) (W := w) sOut (items := _ :: _ :: _ :: _ :: _ :: _ :: _) HSX.out 3 (n := k) rfl rfl rfl (by simp) rfl rfl (by omega) ?_
                 intro A6 c6 w6 hS6 hC6
                 obtain ⟨u1, u2, u3, _⟩ := hS6.rules 2 (g := gO) (t := 73) rfl))
            have hS7 := hS6.set_ 2 (g := gO) (t := 73) rfl 0 (.slice A6 (k + 1) c6)
            have HS7 := hide (hS7.sub (l := [_, _, _, _, _, _]) (List.sublist_append_left [_, _, _, _, _, _] [_]))
            clear hS6 hC6 hS7 u1 HSX
            go_roundw
            case rel => exact ⟨k + 1, A6, c6, s, A3, c3, gl, by omega, by go_num, by rw [HRS2.out]; exact hide rfl, by
              rw [HRS2.out]
              dsimp only
              rw [outsV_app, outsV_one]
              exact HS7.out⟩
            case measure => simp [intOf]; omega
        · obtain rfl : k = nd := by omega
          rw [List.take_of_length_le (by rw [HDL.out]; exact Nat.le_refl _)] at HI hS
          have hgn := HROK.out.k
          obtain ⟨N, hN⟩ : ∃ x, s.obs.length = x := ⟨_, rfl⟩
          rw [hN] at hgn hol
          have HN := hide hN
          have HGN := hide hgn
          have hN5 : N ≤ 500 := by omega
          obtain ⟨F, hF⟩ : ∃ F : Nat → List (Int × Int), F = fun j => (thereK (goneO s.gone) j).map fun x => (x, (pts x.toNat (absR s) : Int)) := ⟨_, rfl⟩
          have hF0 : F 0 = [] := by rw [hF]; rfl
          have hFN : F N = crThere (crRun R ds (crBeg σ0 i)).2 := by
            rw [hF, ← HI.out]
            unfold crThere
            rw [show thereG (crA s gl).gone = thereG s.gone from rfl, thereG_K, hgn]
            rfl
          have hFS : ∀ j (hj : j < s.gone.length), F (j + 1) = F j ++ (if s.gone[j] = true then [] else [((j : Int), (pts j (absR s) : Int))]) := fun j hj => by
            rw [hF]
            dsimp only
            rw [thereG_succ s.gone hj, List.map_append]
            congr 1
            split
            · rfl
            · simp
          have hFL : ∀ j, (F j).length ≤ j := fun j => by rw [hF]; dsimp only; rw [List.length_map]; exact thereK_len _ _
          have HFN := hide hFN
          have HFS := hide hFS
          have HFL := hide hFL
          have HGL := hide (show (crRun R ds (crBeg σ0 i)).2.gl = gl from by rw [← HI.out]; rfl)
          have HS := hide (show Sep No w wr [rowI 174 2 none (F 0).length 0 (countsV (F 0)), rmI Bm s, rowI 3 1 A3 gl.length c3 (ints gl), blkI gO 73 #[.slice A k c, .slice none (F 0).length 0, .slice A3 gl.length c3], rowI 41 3 A k c (outsV (crRun R ds (crBeg σ0 i)).1), blkI g 27 #[.slice AO i cO, .slice AR nR cR], blkI (g + 1) 73 #[.slice none 0 0, .slice none 0 0, .slice none 0 0]] from by
            rw [hF0]; exact hS.nilRow0 174 2)
          clear hF hF0 hFN hFS hFL hN hgn hS ok hol hgb hon HI HRA
          go_wp2_with fail
          go_loopw [14] (fun q wr => ∃ (j : Nat) (A2 : Option Addr) (c2 : Nat), j ≤ N ∧ q = .int .i64 j ∧ Sep No w wr [rowI 174 2 A2 (F j).length c2 (countsV (F j)), rmI Bm s, rowI 3 1 A3 gl.length c3 (ints gl), blkI gO 73 #[.slice A k c, .slice A2 (F j).length c2, .slice A3 gl.length c3], rowI 41 3 A k c (outsV (crRun R ds (crBeg σ0 i)).1), blkI g 27 #[.slice AO i cO, .slice AR nR cR], blkI (g + 1) 73 #[.slice none 0 0, .slice none 0 0, .slice none 0 0]]) (fun q _ => N - (intOf q).toNat)
          case atStart => exact ⟨0, none, 0, by omega, rfl, HS.out⟩
          case round =>
            clear HS
            obtain ⟨j, A2, c2, hj, rfl, hS⟩ := hrel
            obtain ⟨-, m1, m2, m3, -⟩ := rm_mem (hS.get 1 rfl)
            rw [HN.out] at m1
            obtain ⟨sAo, hsAo⟩ : ∃ x, s.Ao = x := ⟨_, rfl⟩
            obtain ⟨sco, hsco⟩ : ∃ x, s.co = x := ⟨_, rfl⟩
            rw [hsAo, hsco] at m1
            clear hsAo hsco
            by_cases hlt : j < N
            · have hkg : j < s.gone.length := by rw [HGN.out]; exact hlt
              obtain ⟨gg, hgg, hz9, gv1, gv2, gv3⟩ := bools_at (rm_gone (hS.get 1 rfl)) hkg
              rw [hgg, HGN.out] at m2
              obtain ⟨scg, hscg⟩ : ∃ x, s.cg = x := ⟨_, rfl⟩
              rw [hscg] at m2
              have hT := HFS.out j hkg
              obtain ⟨b, hb⟩ : ∃ b, s.gone[j] = b := ⟨_, rfl⟩
              rw [hb] at gv1 hT
              have q1 : decide ((j : Int) < 0) = false := by simp
              have q2 : decide ((N : Int) ≤ (j : Int)) = false := by simp; omega
              have HS := hide hS
              cases b with
              | true =>
                have HT := hide (show F (j + 1) = F j from by rw [hT, if_pos rfl, List.append_nil])
                clear hT hb hS hgg hscg hz9 hkg
                go_wp2_with fail
                go_roundw
                case rel => exact ⟨j + 1, A2, c2, by omega, by go_num, by rw [HT.out]; exact HS.out⟩
                case measure => simp [intOf]; omega
              | false =>
                have CP := points_any (hS.drew.get 1 rfl) HROK.out.m.r8 (by have := HROK.out.n; omega) (cr_f4 (hS.get 1 rfl) HOK.out) j
                obtain ⟨p, hp⟩ : ∃ p, pts j (absR s) = p := ⟨_, rfl⟩
                rw [hp] at hT CP
                have HT := hide (show F (j + 1) = F j ++ [((j : Int), (p : Int))] from by rw [hT, if_neg (by simp)])
                have HCP := hide CP
                have hml := HFL.out j
                obtain ⟨mm, hmm⟩ : ∃ x, (F j).length = x := ⟨_, rfl⟩
                have HMM := hide hmm
                obtain ⟨u1, u2, u3, _⟩ := hS.rules 3 (g := gO) (t := 73) rfl
                have u5 := (u1 1).trans (show _ = some (.slice A2 (F j).length c2) from rfl)
                rw [hmm] at u5 HS hml
                clear hT hb hS hgg hscg hz9 hkg CP hp u1 hmm
                go_wp2_with fail
                go_region_law (first
                  | (try go_simp
                     go_at_call 76
                     (with_reducible refine HCP.out.mono ?_)
                     rintro e w8 ⟨rfl, hb8⟩
                     (have hS8 := HS.out.drew.below hb8)
                     obtain ⟨q1, q2, q3, -⟩ := hS8.rules 3 (g := gO) (t := 73) rfl
                     (have q5 := (q1 1).trans (show _ = some (.slice A2 mm c2) from rfl))
                     (have HS8 := hide hS8)
                     (have q6 := (World.cell?_alloc_lt w8 (.cells #[.int .i64 j, .int .i64 p] 174) _ q3).trans q5)
                     clear hS8 hb8 q1)
                  | (refine step_app1 (cs := #[.int .i64 j, .int .i64 p]) rfl (.tmp 112) (.tmp 118) 71 rfl (F := No) (W := w) sCount (items := _ :: _ :: _ :: _ :: _ :: _ :: _) HS8.out 0 (n := mm) rfl rfl rfl (by simp) rfl rfl (by omega) ?_
                     intro A7 c7 w9 hS9 hC9
                     obtain ⟨v1, v2, v3, -⟩ := hS9.rules 3 (g := gO) (t := 73) rfl
                     (have v5 := (v1 1).trans (show _ = some (.slice A2 mm c2) from rfl))
                     clear v1 hC9))
                all_goals
                  have HS10 := hide (hS9.set_ 3 (g := gO) (t := 73) rfl 1 (.slice A7 (mm + 1) c7))
                  clear hS9
                  go_wp2_with fail
                  go_roundw
                  case rel => exact ⟨j + 1, A7, c7, by omega, by go_num, by
                    rw [HT.out, countsV_app, List.length_append, List.length_singleton, HMM.out]
                    exact HS10.out⟩
                  case measure => simp [intOf]; omega
            · obtain rfl : j = N := by omega
              rw [HFN.out] at hS
              obtain ⟨u1, u2, u3, _⟩ := hS.rules 3 (g := gO) (t := 73) rfl
              have u5 := (u1 0).trans (show _ = some (.slice A k c) from rfl)
              have u6 := (u1 1).trans (show _ = some (.slice A2 (crThere (crRun R ds (crBeg σ0 i)).2).length c2) from rfl)
              have u7 := (u1 2).trans (show _ = some (.slice A3 gl.length c3) from rfl)
              obtain ⟨x1, x2, x3, _⟩ := hS.rules 6 (g := g + 1) (t := 73) rfl
              have n2 : gO ≠ g + 1 := fun e => hS.other (a := 3) (b := 6) rfl rfl (by omega) gO rfl e
              have n4 : g + 1 ≠ gO := fun e => n2 e.symm
              have hF := ((hS.set_ 6 (g := g + 1) (t := 73) rfl 0 (.slice A k c)).set_ 6 (g := g + 1) (t := 73) rfl 1 (.slice A2 (crThere (crRun R ds (crBeg σ0 i)).2).length c2)).set_ 6 (g := g + 1) (t := 73) rfl 2 (.slice A3 gl.length c3)
              have HF := hide hF
              clear hS u1 hF
              go_wp2_with fail
              refine bodyPost_ret (v := .agg #[.slice A k c, .slice A2 (crThere (crRun R ds (crBeg σ0 i)).2).length c2, .slice A3 gl.length c3]) (by simp [results, Try.results32, go_sem, x1]) rfl ⟨A, c, A2, _, c2, A3, gl.length, c3, rfl, HF.out.below_, HF.out.rd 4 rfl, HF.out.rd 0 rfl, by rw [HGL.out]; exact HF.out.rd 2 rfl⟩
end Go.Proofs.Ytjphckfbbiehdaa
