/- The reference's memory: what is done, on. The reference's memory: what is done, on. -/
import Derived.Test.YtjphckfbbiehdaaSGenPlays16
set_option linter.unusedSimpArgs false
set_option linter.unusedVariables false
namespace Go.Proofs.Ytjphckfbbiehdaa
open Go.RowKit
set_option maxRecDepth 100000 in
set_option maxHeartbeats 16000000 in
theorem rdo_1 {Bm : Nat} {s : RMem} {w : World} (hP : (rmI Bm s).P w) (ok : ROk s) (R N : Nat) (hR : R < 8) (h4 : N ≤ 4) (fr at_ : Int) : RDoOk Bm s w ⟨1, R, fr, at_, N⟩ := by
  unfold RDoOk
  obtain ⟨F, hF⟩ : ∃ F, (rmI Bm s).fp = F := ⟨_, rfl⟩
  obtain ⟨g, hg⟩ : ∃ g, w.heap.size = g := ⟨_, rfl⟩
  have hS0 := ((Sep.start hP).blkAt 39 (DoV.cells ⟨1, R, fr, at_, N⟩) (g := g) hg).blkAt 41 #[.int .i64 0, .bool false, .int .i64 0] (g := g + 1) (by simp [hg])
  rw [hF] at hS0 ⊢
  have h8 : s.regs.length = 8 := ok.m.r8
  have hps : (absR s).objs.length = s.obs.length := by simp [absR]
  have hgr := (rm_reg hP h8 0 (by omega)).2.2.2.2
  rw [hg] at hgr
  have q1 : s.gr ≠ g + 1 := by omega
  have q2 : s.gr ≠ g := by omega
  have hmx : Try.prog.follows .mixedOrders = true := by kernel_rfl
  obtain ⟨res, hres⟩ : ∃ r, stepK ⟨1, R, fr, at_, N⟩ (absR s) = r := ⟨_, rfl⟩
  have hst : res = (⟨0, false, 0⟩, ⟨s.regs.set R (true, s.obs.length), (absR s).objs ++ [zeroVs N]⟩) := by
    rw [← hres]
    unfold stepK
    simp [absR]
  rw [hres]
  have HRES := hide hst
  clear hst hres
  unfold DoV.cells at hS0 ⊢
  dsimp only at hS0 ⊢
  obtain ⟨a1, _, a3, _⟩ := hS0.rules 1 (g := g) (t := 39) rfl
  have e0 := (a1 0).trans (show _ = some (.int .i64 1) from rfl)
  have e1 := (a1 1).trans (show _ = some (.int .i64 _) from rfl)
  have e2 := (a1 2).trans (show _ = some (.int .i64 _) from rfl)
  have e3 := (a1 3).trans (show _ = some (.int .i64 _) from rfl)
  have e4 := (a1 4).trans (show _ = some (.int .i64 _) from rfl)
  obtain ⟨b1, b2, b3, _⟩ := hS0.rules 2 (g := g + 1) (t := 41) rfl
  have f0 := (b1 0).trans (show _ = some (.int .i64 0) from rfl)
  have f1 := (b1 1).trans (show _ = some (.bool false) from rfl)
  have f2 := (b1 2).trans (show _ = some (.int .i64 0) from rfl)
  have hP0 : (rmI Bm s).P _ := hS0.get 0 rfl
  obtain ⟨m0, m1, m2, m3, m4⟩ := rm_mem hP0
  obtain ⟨L, hL⟩ : ∃ x, s.regs.length = x := ⟨_, rfl⟩
  rw [hL] at m0
  have hLL : L = 8 := by omega
  have HS0 := hide hS0
  have HOK := hide ok
  clear a1 b1 hS0 hP0 hF hP ok hps hLL hL
  go_enter Try.func81, Try.ntmps81
  go_wp2_with fail
  obtain ⟨W, hW⟩ : ∃ W, (w.alloc (.cells #[.int .i64 1, .int .i64 R, .int .i64 fr, .int .i64 at_, .int .i64 N] 39)).alloc (.cells #[.int .i64 0, .bool false, .int .i64 0] 41) = W := ⟨_, rfl⟩
  rw [hW] at HS0 e0 e1 e2 e3 e4 f0 f1 f2 m0 m1 m2 m3 m4 b2 b3 a3 ⊢
  clear hW
  have CN := hide (rnew_any (w := W) (HS0.out.get 0 rfl) h8 (by have := HOK.out.n; omega) (by have := HOK.out.k; have := HOK.out.n; omega) hR h4 fr at_)
  go_wp2_with fail
  refine CN.out.mono ?_
  rintro e w1 ⟨⟨u, rfl⟩, Ao, co, Ag, cg, gn, hP1⟩
  have hS1 := HS0.out.call 0 rfl hP1
  obtain ⟨b1, b2, b3, _⟩ := hS1.rules 2 (g := g + 1) (t := 41) rfl
  have f0 := (b1 0).trans (show _ = some (.int .i64 0) from rfl)
  have f1 := (b1 1).trans (show _ = some (.bool false) from rfl)
  have f2 := (b1 2).trans (show _ = some (.int .i64 0) from rfl)
  have HS1 := hide hS1
  clear hP1 hS1 HS0 CN b1
  go_wp2_with fail
  have hr := HRES.out
  subst hr
  have hF2 := (((HS1.out).set_ 2 (g := g + 1) (t := 41) rfl 0 (.int .i64 0)).set_ 2 (g := g + 1) (t := 41) rfl 1 (.bool false)).set_ 2 (g := g + 1) (t := 41) rfl 2 (.int .i64 0)
  refine bodyPost_ret (v := .agg #[.int .i64 0, .bool false, .int .i64 0]) (by simp [results, Try.results81, go_sem, f0, f1, f2]) rfl ⟨s.newO Ao co Ag cg gn R N, rfl, by simp [absR, RMem.newO], hF2.sub (by simp), by (have h := HOK.out.k; simpa [RMem.setR, RMem.setO, RMem.newO] using h), by simp [goneD, RMem.setR, RMem.setO, RMem.newO]⟩
set_option maxRecDepth 100000 in
set_option maxHeartbeats 16000000 in
theorem rdo_6 {Bm : Nat} {s : RMem} {w : World} (hP : (rmI Bm s).P w) (ok : ROk s) (R Q : Nat) (hR : R < 8) (hQ : Q < 8) (at_ n : Int) : RDoOk Bm s w ⟨6, R, Q, at_, n⟩ := by
  unfold RDoOk
  obtain ⟨F, hF⟩ : ∃ F, (rmI Bm s).fp = F := ⟨_, rfl⟩
  obtain ⟨g, hg⟩ : ∃ g, w.heap.size = g := ⟨_, rfl⟩
  have hS0 := ((Sep.start hP).blkAt 39 (DoV.cells ⟨6, R, Q, at_, n⟩) (g := g) hg).blkAt 41 #[.int .i64 0, .bool false, .int .i64 0] (g := g + 1) (by simp [hg])
  rw [hF] at hS0 ⊢
  have h8 : s.regs.length = 8 := ok.m.r8
  have hps : (absR s).objs.length = s.obs.length := by simp [absR]
  have hgr := (rm_reg hP h8 0 (by omega)).2.2.2.2
  rw [hg] at hgr
  have q1 : s.gr ≠ g + 1 := by omega
  have q2 : s.gr ≠ g := by omega
  have hmx : Try.prog.follows .mixedOrders = true := by kernel_rfl
  obtain ⟨res, hres⟩ : ∃ r, stepK ⟨6, R, Q, at_, n⟩ (absR s) = r := ⟨_, rfl⟩
  have hst : res = (⟨0, false, if rgA s.regs R = rgA s.regs Q then 1 else 0⟩, absR s) := by
    rw [← hres]
    rfl
  rw [hres]
  have HRES := hide hst
  clear hst hres
  unfold DoV.cells at hS0 ⊢
  dsimp only at hS0 ⊢
  obtain ⟨a1, _, a3, _⟩ := hS0.rules 1 (g := g) (t := 39) rfl
  have e0 := (a1 0).trans (show _ = some (.int .i64 6) from rfl)
  have e1 := (a1 1).trans (show _ = some (.int .i64 _) from rfl)
  have e2 := (a1 2).trans (show _ = some (.int .i64 _) from rfl)
  have e3 := (a1 3).trans (show _ = some (.int .i64 _) from rfl)
  have e4 := (a1 4).trans (show _ = some (.int .i64 _) from rfl)
  obtain ⟨b1, b2, b3, _⟩ := hS0.rules 2 (g := g + 1) (t := 41) rfl
  have f0 := (b1 0).trans (show _ = some (.int .i64 0) from rfl)
  have f1 := (b1 1).trans (show _ = some (.bool false) from rfl)
  have f2 := (b1 2).trans (show _ = some (.int .i64 0) from rfl)
  have hP0 : (rmI Bm s).P _ := hS0.get 0 rfl
  obtain ⟨m0, m1, m2, m3, m4⟩ := rm_mem hP0
  obtain ⟨L, hL⟩ : ∃ x, s.regs.length = x := ⟨_, rfl⟩
  rw [hL] at m0
  have hLL : L = 8 := by omega
  obtain ⟨i5, i6, _, _, _⟩ := rm_reg hP0 h8 R hR
  obtain ⟨i3, i4, _, _, _⟩ := rm_reg hP0 h8 Q hQ
  obtain ⟨v, hv⟩ : ∃ v, rgA s.regs (R : Int) = v := ⟨_, rfl⟩
  obtain ⟨u, hu⟩ : ∃ v, rgA s.regs (Q : Int) = v := ⟨_, rfl⟩
  rw [hv] at i5 i6
  rw [hu] at i3 i4
  have HV := hide hv
  have HU := hide hu
  obtain ⟨bv, mv⟩ := v
  obtain ⟨bu, mu⟩ := u
  dsimp only at i3 i4 i5 i6
  obtain ⟨b, hb⟩ : ∃ b, decide (((bv, mv) : Val) = (bu, mu)) = b := ⟨_, rfl⟩
  have heq : ∀ W, (binOp .eql 107 (.agg #[.bool bv, .int .i64 mv]) (.agg #[.bool bu, .int .i64 mu])).run Try.prog W = .ok (.bool b) W := fun W => by rw [eq_val, hb]
  have hgd := fun W x y => guard_val W x y bv bu mv mu
  have HB := hide hb
  clear hb hv hu
  have z1 : R < L := by omega
  have z2 : Q < L := by omega
  clear hL hLL
  have HS0 := hide hS0
  have HOK := hide ok
  clear a1 b1 hS0 hP0 hF hP ok hps
  go_enter Try.func81, Try.ntmps81
  go_wp2_with fail
  obtain ⟨W, hW⟩ : ∃ W, (w.alloc (.cells #[.int .i64 6, .int .i64 R, .int .i64 Q, .int .i64 at_, .int .i64 n] 39)).alloc (.cells #[.int .i64 0, .bool false, .int .i64 0] 41) = W := ⟨_, rfl⟩
  rw [hW] at HS0 e0 e1 e2 e3 e4 f0 f1 f2 m0 m1 m2 m3 m4 b2 b3 a3 i3 i4 i5 i6 ⊢
  clear hW
  go_region_held3 (fun w' => w'.cell? ⟨Bm, 0, none⟩ = some (.slice (some ⟨s.gr, 0, none⟩) L s.cR) ∧ w'.cell? ⟨g, 1, none⟩ = some (.int .i64 (R : Int)) ∧ w'.cell? ⟨g, 2, none⟩ = some (.int .i64 (Q : Int)) ∧ w'.cell? ⟨s.gr, Q * 2, none⟩ = some (.bool bu) ∧ w'.cell? ⟨s.gr, Q * 2 + 1, none⟩ = some (.int .i64 mu) ∧ w'.cell? ⟨s.gr, R * 2, none⟩ = some (.bool bv) ∧ w'.cell? ⟨s.gr, R * 2 + 1, none⟩ = some (.int .i64 mv)) (go_keep) (fail)
  cases b
  · go_wp2_with fail
    have hr := HRES.out
    rw [HV.out, HU.out, if_neg (of_decide_eq_false HB.out)] at hr
    subst hr
    have hF2 := (((HS0.out.drew).set_ 2 (g := g + 1) (t := 41) rfl 0 (.int .i64 0)).set_ 2 (g := g + 1) (t := 41) rfl 1 (.bool false)).set_ 2 (g := g + 1) (t := 41) rfl 2 (.int .i64 0)
    refine bodyPost_ret (v := .agg #[.int .i64 0, .bool false, .int .i64 0]) (by simp [results, Try.results81, go_sem, f0, f1, f2]) rfl ⟨s, rfl, rfl, hF2.sub (by simp), by (have h := HOK.out.k; simpa [RMem.setR, RMem.setO, RMem.newO] using h), by simp [goneD, RMem.setR, RMem.setO, RMem.newO]⟩
  · go_wp2_with fail
    have hr := HRES.out
    rw [HV.out, HU.out, if_pos (of_decide_eq_true HB.out)] at hr
    subst hr
    have hF2 := (((HS0.out.drew).set_ 2 (g := g + 1) (t := 41) rfl 0 (.int .i64 0)).set_ 2 (g := g + 1) (t := 41) rfl 1 (.bool false)).set_ 2 (g := g + 1) (t := 41) rfl 2 (.int .i64 1)
    refine bodyPost_ret (v := .agg #[.int .i64 0, .bool false, .int .i64 1]) (by simp [results, Try.results81, go_sem, f0, f1, f2]) rfl ⟨s, rfl, rfl, hF2.sub (by simp), by (have h := HOK.out.k; simpa [RMem.setR, RMem.setO, RMem.newO] using h), by simp [goneD, RMem.setR, RMem.setO, RMem.newO]⟩
end Go.Proofs.Ytjphckfbbiehdaa

namespace Go.Proofs.Ytjphckfbbiehdaa
open Go.RowKit
set_option maxRecDepth 100000 in
set_option maxHeartbeats 16000000 in
theorem rdo_7 {Bm : Nat} {s : RMem} {w : World} (hP : (rmI Bm s).P w) (ok : ROk s) (to : Int) (Q : Nat) (hQ : Q < 8) (at_ n : Int) : RDoOk Bm s w ⟨7, to, Q, at_, n⟩ := by
  unfold RDoOk
  obtain ⟨F, hF⟩ : ∃ F, (rmI Bm s).fp = F := ⟨_, rfl⟩
  obtain ⟨g, hg⟩ : ∃ g, w.heap.size = g := ⟨_, rfl⟩
  have hS0 := ((Sep.start hP).blkAt 39 (DoV.cells ⟨7, to, Q, at_, n⟩) (g := g) hg).blkAt 41 #[.int .i64 0, .bool false, .int .i64 0] (g := g + 1) (by simp [hg])
  rw [hF] at hS0 ⊢
  have h8 : s.regs.length = 8 := ok.m.r8
  have hps : (absR s).objs.length = s.obs.length := by simp [absR]
  have hgr := (rm_reg hP h8 0 (by omega)).2.2.2.2
  rw [hg] at hgr
  have q1 : s.gr ≠ g + 1 := by omega
  have q2 : s.gr ≠ g := by omega
  have hmx : Try.prog.follows .mixedOrders = true := by kernel_rfl
  obtain ⟨res, hres⟩ : ∃ r, stepK ⟨7, to, Q, at_, n⟩ (absR s) = r := ⟨_, rfl⟩
  have hst : res = (⟨0, (rgA s.regs Q).1, if (rgA s.regs Q).1 = true then (obA (absR s).objs (rgA s.regs Q).2).length else (rgA s.regs Q).2⟩, absR s) := by
    rw [← hres]
    rfl
  rw [hres]
  have HRES := hide hst
  clear hst hres
  unfold DoV.cells at hS0 ⊢
  dsimp only at hS0 ⊢
  obtain ⟨a1, _, a3, _⟩ := hS0.rules 1 (g := g) (t := 39) rfl
  have e0 := (a1 0).trans (show _ = some (.int .i64 7) from rfl)
  have e1 := (a1 1).trans (show _ = some (.int .i64 _) from rfl)
  have e2 := (a1 2).trans (show _ = some (.int .i64 _) from rfl)
  have e3 := (a1 3).trans (show _ = some (.int .i64 _) from rfl)
  have e4 := (a1 4).trans (show _ = some (.int .i64 _) from rfl)
  obtain ⟨b1, b2, b3, _⟩ := hS0.rules 2 (g := g + 1) (t := 41) rfl
  have f0 := (b1 0).trans (show _ = some (.int .i64 0) from rfl)
  have f1 := (b1 1).trans (show _ = some (.bool false) from rfl)
  have f2 := (b1 2).trans (show _ = some (.int .i64 0) from rfl)
  have hP0 : (rmI Bm s).P _ := hS0.get 0 rfl
  obtain ⟨m0, m1, m2, m3, m4⟩ := rm_mem hP0
  obtain ⟨L, hL⟩ : ∃ x, s.regs.length = x := ⟨_, rfl⟩
  rw [hL] at m0
  have hLL : L = 8 := by omega
  obtain ⟨i3, i4, _, _, i5⟩ := rm_reg hP0 h8 Q hQ
  have hvv : (rgA s.regs (Q : Int)).1 = true → 0 ≤ (rgA s.regs (Q : Int)).2 ∧ (rgA s.regs (Q : Int)).2 < (s.obs.length : Int) := by rw [← hps]; exact valsOk_getD ok.m.vr _
  obtain ⟨v, hv⟩ : ∃ v, rgA s.regs (Q : Int) = v := ⟨_, rfl⟩
  have HV := hide hv
  rw [hv] at i3 i4 hvv
  obtain ⟨bv, mv⟩ := v
  have HVV := hide hvv
  dsimp only at i3 i4
  clear hv hvv
  have z2 : Q < L := by omega
  clear hL hLL
  have HS0 := hide hS0
  have HOK := hide ok
  clear a1 b1 hS0 hP0 hF hP ok hps
  go_enter Try.func81, Try.ntmps81
  go_wp2_with fail
  obtain ⟨W, hW⟩ : ∃ W, (w.alloc (.cells #[.int .i64 7, .int .i64 to, .int .i64 Q, .int .i64 at_, .int .i64 n] 39)).alloc (.cells #[.int .i64 0, .bool false, .int .i64 0] 41) = W := ⟨_, rfl⟩
  rw [hW] at HS0 e0 e1 e2 e3 e4 f0 f1 f2 m0 m1 m2 m3 m4 b2 b3 a3 i3 i4 i5 ⊢
  clear hW
  have y1 : g ≠ W.heap.size := by omega
  have y2 : Bm ≠ W.heap.size := by omega
  have y3 : s.gr ≠ W.heap.size := by omega
  go_region_held3 (fun w' => w'.cell? ⟨Bm, 0, none⟩ = some (.slice (some ⟨s.gr, 0, none⟩) L s.cR) ∧ w'.cell? ⟨g, 2, none⟩ = some (.int .i64 (Q : Int)) ∧ w'.cell? ⟨s.gr, Q * 2, none⟩ = some (.bool bv) ∧ w'.cell? ⟨s.gr, Q * 2 + 1, none⟩ = some (.int .i64 mv)) (simp (config := { maxDischargeDepth := 8 }) [*, World.cell?_alloc_some]) (fail)
  have hSv := (HS0.out.blkAt 107 #[.bool bv, .int .i64 mv] (g := W.heap.size) rfl).drew
  obtain ⟨gv, hgv⟩ : ∃ g, W.heap.size = g := ⟨_, rfl⟩
  obtain ⟨v1, v2, v3, _⟩ := hSv.rules 3 (g := W.heap.size) (t := 107) rfl
  have v4 := (v1 0).trans (show _ = some (.bool bv) from rfl)
  have v5 := (v1 1).trans (show _ = some (.int .i64 mv) from rfl)
  obtain ⟨b1, b2, b3, _⟩ := hSv.rules 2 (g := g + 1) (t := 41) rfl
  have f0 := (b1 0).trans (show _ = some (.int .i64 0) from rfl)
  have f1 := (b1 1).trans (show _ = some (.bool false) from rfl)
  have f2 := (b1 2).trans (show _ = some (.int .i64 0) from rfl)
  obtain ⟨m0, m1, m2, m3, m4⟩ := rm_mem (hSv.get 0 rfl)
  have HSV := hide hSv
  clear hSv v1 b1 m0 m2
  obtain ⟨W2, hW⟩ : ∃ X, (W.alloc (.cells #[.bool bv, .int .i64 mv] 107)).drew = X := ⟨_, rfl⟩
  rw [hW] at HSV v2 v3 v4 v5 b2 b3 f0 f1 f2 m1 m3 m4 ⊢
  clear hW y1 y2 y3
  try rw [hgv] at v4
  try rw [hgv] at v5
  try rw [hgv] at HSV
  try rw [hgv] at v2
  try rw [hgv] at v3
  rw [hgv]
  clear hgv
  by_cases hb : bv = true
  · subst hb
    obtain ⟨h0, h1⟩ := HVV.out rfl
    obtain ⟨i, rfl⟩ := int_nat h0
    have hi : i < s.obs.length := by omega
    obtain ⟨ga, hga, o1, _⟩ := rm_ob (HSV.out.get 0 rfl) hi
    have hln := rm_len (HSV.out.get 0 rfl) (List.getElem_mem hi)
    have hl4 := HOK.out.m.f4 s.obs[i].fields (by unfold absR; exact List.mem_map.2 ⟨s.obs[i], List.getElem_mem hi, rfl⟩)
    have HLN := hide hln
    have hoe : obA (absR s).objs (i : Int) = s.obs[i].fields := by
      unfold obA absR
      rw [show ((i : Int)).toNat = i from by omega, List.getD_eq_getElem?_getD]; simp [List.getElem?_eq_getElem hi]
    have HOE := hide hoe
    obtain ⟨oN, hoN⟩ : ∃ x, s.obs[i].n = x := ⟨_, rfl⟩
    have hn4 : oN ≤ 4 := by omega
    rw [hoN] at o1
    have HON := hide hoN
    rw [hga] at m1
    clear hoe hga hln hoN hl4
    go_wp2_with fail
    go_still_tail 11, hmx
    go_wp2_with fail
    have hr := HRES.out
    rw [HV.out] at hr
    dsimp only at hr
    rw [if_pos rfl, HOE.out, HLN.out, HON.out] at hr
    subst hr
    have hF2 := (((HSV.out.drew).set_ 2 (g := g + 1) (t := 41) rfl 0 (.int .i64 0)).set_ 2 (g := g + 1) (t := 41) rfl 1 (.bool true)).set_ 2 (g := g + 1) (t := 41) rfl 2 (.int .i64 (oN : Int))
    refine bodyPost_ret (v := .agg #[.int .i64 0, .bool true, .int .i64 (oN : Int)]) (by simp [results, Try.results81, go_sem, f0, f1, f2]) rfl ⟨s, rfl, rfl, hF2.sub (by simp), by (have h := HOK.out.k; simpa [RMem.setR, RMem.setO, RMem.newO] using h), by simp [goneD, RMem.setR, RMem.setO, RMem.newO]⟩
  · have hb2 : bv = false := by cases bv <;> simp_all
    subst hb2
    go_wp2_with fail
    have hr := HRES.out
    rw [HV.out] at hr
    dsimp only at hr
    rw [if_neg (by decide)] at hr
    subst hr
    have hF2 := (((HSV.out).set_ 2 (g := g + 1) (t := 41) rfl 0 (.int .i64 0)).set_ 2 (g := g + 1) (t := 41) rfl 1 (.bool false)).set_ 2 (g := g + 1) (t := 41) rfl 2 (.int .i64 mv)
    refine bodyPost_ret (v := .agg #[.int .i64 0, .bool false, .int .i64 mv]) (by simp [results, Try.results81, go_sem, f0, f1, f2]) rfl ⟨s, rfl, rfl, hF2.sub (by simp), by (have h := HOK.out.k; simpa [RMem.setR, RMem.setO, RMem.newO] using h), by simp [goneD, RMem.setR, RMem.setO, RMem.newO]⟩
theorem fr_of {k to fr at_ n : Int} (h : wrongM ⟨k, to, fr, at_, n⟩ = 0) (h1 : k ≠ 1) (h2 : k ≠ 2) : ∃ Q : Nat, fr = (Q : Int) ∧ Q < 8 := by
  obtain ⟨u0, u1⟩ := wrongM_fr h h1 h2
  dsimp only at u0 u1
  obtain ⟨Q, rfl⟩ := int_nat u0
  exact ⟨Q, rfl, by omega⟩
theorem to_of {k to fr at_ n : Int} (h : wrongM ⟨k, to, fr, at_, n⟩ = 0) (h1 : k ≠ 7) : ∃ Q : Nat, to = (Q : Int) ∧ Q < 8 := by
  obtain ⟨u0, u1⟩ := wrongM_to h h1
  dsimp only at u0 u1
  obtain ⟨Q, rfl⟩ := int_nat u0
  exact ⟨Q, rfl, by omega⟩
theorem rdo_any {Bm : Nat} {s : RMem} {w : World} (hP : (rmI Bm s).P w) (ok : ROk s) (d : DoV) (hw : rWrong d (absR s) = 0) : RDoOk Bm s w d := by
  have hw1 : wrongM d = 0 := by
    unfold rWrong at hw
    by_cases h : wrongM d ≠ 0
    · rw [if_pos h] at hw; exact hw
    · omega
  obtain ⟨k1, k2⟩ := wrongM_rng hw1
  unfold rWrong at hw
  rw [if_neg (by omega)] at hw
  obtain ⟨k, to, fr, at_, n⟩ := d
  dsimp only at k1 k2 hw
  obtain rfl | rfl | rfl | rfl | rfl | rfl | rfl : k = 1 ∨ k = 2 ∨ k = 3 ∨ k = 4 ∨ k = 5 ∨ k = 6 ∨ k = 7 := by omega
  · obtain ⟨n0, n1⟩ := wrongM_n hw1 rfl
    dsimp only at n0 n1
    obtain ⟨N, rfl⟩ := int_nat n0
    obtain ⟨R, rfl, hR⟩ := to_of hw1 (by decide)
    exact rdo_1 hP ok R N hR (by omega) fr at_
  · skip
    obtain ⟨R, rfl, hR⟩ := to_of hw1 (by decide)
    exact rdo_2 hP ok R hR fr at_ n
  · skip
    obtain ⟨R, rfl, hR⟩ := to_of hw1 (by decide)
    obtain ⟨Q, rfl, hQ⟩ := fr_of hw1 (by decide) (by decide)
    exact rdo_3 hP ok R Q hR hQ at_ n
  · skip
    obtain ⟨R, rfl, hR⟩ := to_of hw1 (by decide)
    obtain ⟨Q, rfl, hQ⟩ := fr_of hw1 (by decide) (by decide)
    exact rdo_4 hP ok R Q hR hQ at_ n (by simpa [absR] using hw)
  · skip
    obtain ⟨R, rfl, hR⟩ := to_of hw1 (by decide)
    obtain ⟨Q, rfl, hQ⟩ := fr_of hw1 (by decide) (by decide)
    exact rdo_5 hP ok R Q hR hQ at_ n (by simpa [absR] using hw)
  · skip
    obtain ⟨R, rfl, hR⟩ := to_of hw1 (by decide)
    obtain ⟨Q, rfl, hQ⟩ := fr_of hw1 (by decide) (by decide)
    exact rdo_6 hP ok R Q hR hQ at_ n
  · skip
    obtain ⟨Q, rfl, hQ⟩ := fr_of hw1 (by decide) (by decide)
    exact rdo_7 hP ok to Q hQ at_ n
end Go.Proofs.Ytjphckfbbiehdaa
