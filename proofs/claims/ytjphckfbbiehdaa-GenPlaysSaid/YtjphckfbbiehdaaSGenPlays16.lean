/- The reference's memory: what is done, where nothing is wrong. The reference's memory: what is done, on. The reference's memory: what is done, on. -/
import Derived.Test.YtjphckfbbiehdaaSGenPlays15
import Derived.Test.YtjphckfbbiehdaaSGenPlays8
import Derived.Laws.StructEq
set_option linter.unusedSimpArgs false
set_option linter.unusedVariables false
namespace Go.Proofs.Ytjphckfbbiehdaa
open Go.RowKit
def rWrong (d : DoV) (σ : MSt) : Int := if wrongM d ≠ 0 then wrongM d else if d.k = 4 then fErr σ.objs (rgA σ.regs d.to) d.at_ else if d.k = 5 then fErr σ.objs (rgA σ.regs d.fr) d.at_ else 0
theorem stepM_rw (d : DoV) (σ : MSt) : stepM d σ = if rWrong d σ ≠ 0 then (⟨rWrong d σ, false, 0⟩, σ) else stepK d σ := by
  unfold stepM rWrong
  by_cases h : wrongM d ≠ 0
  · simp [h]
  · rw [if_neg h, if_neg h]
    unfold stepK
    by_cases h4 : d.k = 4
    · rw [h4]
      simp only [show ¬(4 : Int) = 1 from by decide, show ¬(4 : Int) = 2 from by decide, show ¬(4 : Int) = 3 from by decide, if_false, if_true]
      by_cases hp : fErr σ.objs (rgA σ.regs d.to) d.at_ = 0 <;> simp [hp]
    by_cases h5 : d.k = 5
    · rw [h5]
      simp only [show ¬(5 : Int) = 1 from by decide, show ¬(5 : Int) = 2 from by decide, show ¬(5 : Int) = 3 from by decide, show ¬(5 : Int) = 4 from by decide, if_false, if_true]
      by_cases hp : fErr σ.objs (rgA σ.regs d.fr) d.at_ = 0 <;> simp [hp]
    · simp [h4, h5]
def goneD (d : DoV) (gone : List Bool) : List Bool := if d.k = 1 then gone ++ [false] else gone
def RDoOk (Bm : Nat) (s : RMem) (w : World) (d : DoV) : Prop :=
  Calls Try.prog 81 #[.pointer (some ⟨Bm, 0, none⟩), .agg d.cells] w fun e w' => ∃ s', e = .returned (stepK d (absR s)).1.val ∧ absR s' = (stepK d (absR s)).2 ∧ Sep (rmI Bm s).fp w w' [rmI Bm s'] ∧ s'.gone.length = s'.obs.length ∧ s'.gone = goneD d s.gone
structure ROk (s : RMem) : Prop where
  m : MOk (absR s)
  n : s.obs.length ≤ 500
  k : s.gone.length = s.obs.length
theorem rferr_facts {Bm : Nat} {s : RMem} {w : World} (hP : (rmI Bm s).P w) (ok : ROk s) (r : Nat) {at_ : Int} (hz : fErr (absR s).objs (rgA s.regs r) at_ = 0) :
    ∃ i k : Nat, rgA s.regs r = (true, (i : Int)) ∧ at_ = (k : Int) ∧ ∃ hi : i < s.obs.length, k < s.obs[i].fields.length ∧ k < s.obs[i].n ∧ s.obs[i].n ≤ 4 ∧ obA (absR s).objs (i : Int) = s.obs[i].fields := by
  obtain ⟨h1, h2, h3⟩ := ferr_zero hz
  have hps : (absR s).objs.length = s.obs.length := by simp [absR]
  have hv := valsOk_getD ok.m.vr r
  have hv2 : (rgA s.regs r).1 = true → 0 ≤ (rgA s.regs r).2 ∧ (rgA s.regs r).2 < (s.obs.length : Int) := by rw [← hps]; unfold rgA; rw [show ((r : Int)).toNat = r from by omega]; exact hv
  obtain ⟨h4, h5⟩ := hv2 h1
  obtain ⟨i, hi2⟩ := int_nat h4
  obtain ⟨k, rfl⟩ := int_nat h2
  have hi : i < s.obs.length := by omega
  have e2 : obA (absR s).objs (i : Int) = s.obs[i].fields := by
    unfold obA absR
    rw [show ((i : Int)).toNat = i from by omega, List.getD_eq_getElem?_getD]; simp [List.getElem?_eq_getElem hi]
  have e3 := rm_len hP (List.getElem_mem hi)
  have e4 := ok.m.f4 s.obs[i].fields (by unfold absR; exact List.mem_map.2 ⟨s.obs[i], List.getElem_mem hi, rfl⟩)
  rw [hi2, e2] at h3
  exact ⟨i, k, Prod.ext h1 hi2, rfl, hi, by omega, by omega, by omega, e2⟩
set_option maxRecDepth 100000 in
set_option maxHeartbeats 16000000 in
theorem rdo_2 {Bm : Nat} {s : RMem} {w : World} (hP : (rmI Bm s).P w) (ok : ROk s) (R : Nat) (hR : R < 8) (fr at_ n : Int) : RDoOk Bm s w ⟨2, R, fr, at_, n⟩ := by
  unfold RDoOk
  obtain ⟨F, hF⟩ : ∃ F, (rmI Bm s).fp = F := ⟨_, rfl⟩
  obtain ⟨g, hg⟩ : ∃ g, w.heap.size = g := ⟨_, rfl⟩
  have hS0 := ((Sep.start hP).blkAt 39 (DoV.cells ⟨2, R, fr, at_, n⟩) (g := g) hg).blkAt 41 #[.int .i64 0, .bool false, .int .i64 0] (g := g + 1) (by simp [hg])
  rw [hF] at hS0 ⊢
  have h8 : s.regs.length = 8 := ok.m.r8
  have hps : (absR s).objs.length = s.obs.length := by simp [absR]
  have hgr := (rm_reg hP h8 0 (by omega)).2.2.2.2
  rw [hg] at hgr
  have q1 : s.gr ≠ g + 1 := by omega
  have q2 : s.gr ≠ g := by omega
  have hmx : Try.prog.follows .mixedOrders = true := by kernel_rfl
  obtain ⟨res, hres⟩ : ∃ r, stepK ⟨2, R, fr, at_, n⟩ (absR s) = r := ⟨_, rfl⟩
  have hst : res = (⟨0, false, 0⟩, ⟨s.regs.set R (false, n), (absR s).objs⟩) := by
    rw [← hres]
    rfl
  rw [hres]
  have HRES := hide hst
  clear hst hres
  unfold DoV.cells at hS0 ⊢
  dsimp only at hS0 ⊢
  obtain ⟨a1, _, a3, _⟩ := hS0.rules 1 (g := g) (t := 39) rfl
  have e0 := (a1 0).trans (show _ = some (.int .i64 2) from rfl)
  have e1 := (a1 1).trans (show _ = some (.int .i64 _) from rfl)
  have e2 := (a1 2).trans (show _ = some (.int .i64 _) from rfl)
  have e3 := (a1 3).trans (show _ = some (.int .i64 _) from rfl)
  have e4 := (a1 4).trans (show _ = some (.int .i64 _) from rfl)
  obtain ⟨b1, b2, b3, _⟩ := hS0.rules 2 (g := g + 1) (t := 41) rfl
  have f0 := (b1 0).trans (show _ = some (.int .i64 0) from rfl)
  have f1 := (b1 1).trans (show _ = some (.bool false) from rfl)
  have f2 := (b1 2).trans (show _ = some (.int .i64 0) from rfl)
  have hP0 : (rmI Bm s).P _ := hS0.get 0 rfl
  obtain ⟨m0, m1, m2, m3, m4⟩ := rm_mem hP0
  obtain ⟨L, hL⟩ : ∃ x, s.regs.length = x := ⟨_, rfl⟩
  rw [hL] at m0
  have hLL : L = 8 := by omega
  obtain ⟨r0, r1, r2, r3, r4⟩ := rm_reg hP0 h8 R hR
  have z1 : R < L := by omega
  clear hL hLL
  have HS0 := hide hS0
  have HOK := hide ok
  clear a1 b1 hS0 hP0 hF hP ok hps
  go_enter Try.func81, Try.ntmps81
  go_wp2_with fail
  obtain ⟨W, hW⟩ : ∃ W, (w.alloc (.cells #[.int .i64 2, .int .i64 R, .int .i64 fr, .int .i64 at_, .int .i64 n] 39)).alloc (.cells #[.int .i64 0, .bool false, .int .i64 0] 41) = W := ⟨_, rfl⟩
  rw [hW] at HS0 e0 e1 e2 e3 e4 f0 f1 f2 m0 m1 m2 m3 m4 b2 b3 a3 r0 r1 r2 r3 r4 ⊢
  clear hW
  go_still_tail 9, hmx
  have HT := HS0.out.call 0 rfl (rm_setR (HS0.out.get 0 rfl) R (false, n))
  dsimp only at HT
  have HT2 := hide HT.drew
  clear HT
  go_wp2_with fail
  have hr := HRES.out
  subst hr
  have hF2 := (((HT2.out).set_ 2 (g := g + 1) (t := 41) rfl 0 (.int .i64 0)).set_ 2 (g := g + 1) (t := 41) rfl 1 (.bool false)).set_ 2 (g := g + 1) (t := 41) rfl 2 (.int .i64 0)
  refine bodyPost_ret (v := .agg #[.int .i64 0, .bool false, .int .i64 0]) (by simp [results, Try.results81, go_sem, f0, f1, f2]) rfl ⟨s.setR R (false, n), rfl, rfl, hF2.sub (by simp), by (have h := HOK.out.k; simpa [RMem.setR, RMem.setO, RMem.newO] using h), by simp [goneD, RMem.setR, RMem.setO, RMem.newO]⟩
set_option maxRecDepth 100000 in
set_option maxHeartbeats 16000000 in
theorem rdo_3 {Bm : Nat} {s : RMem} {w : World} (hP : (rmI Bm s).P w) (ok : ROk s) (R Q : Nat) (hR : R < 8) (hQ : Q < 8) (at_ n : Int) : RDoOk Bm s w ⟨3, R, Q, at_, n⟩ := by
  unfold RDoOk
  obtain ⟨F, hF⟩ : ∃ F, (rmI Bm s).fp = F := ⟨_, rfl⟩
  obtain ⟨g, hg⟩ : ∃ g, w.heap.size = g := ⟨_, rfl⟩
  have hS0 := ((Sep.start hP).blkAt 39 (DoV.cells ⟨3, R, Q, at_, n⟩) (g := g) hg).blkAt 41 #[.int .i64 0, .bool false, .int .i64 0] (g := g + 1) (by simp [hg])
  rw [hF] at hS0 ⊢
  have h8 : s.regs.length = 8 := ok.m.r8
  have hps : (absR s).objs.length = s.obs.length := by simp [absR]
  have hgr := (rm_reg hP h8 0 (by omega)).2.2.2.2
  rw [hg] at hgr
  have q1 : s.gr ≠ g + 1 := by omega
  have q2 : s.gr ≠ g := by omega
  have hmx : Try.prog.follows .mixedOrders = true := by kernel_rfl
  obtain ⟨res, hres⟩ : ∃ r, stepK ⟨3, R, Q, at_, n⟩ (absR s) = r := ⟨_, rfl⟩
  have hst : res = (⟨0, false, 0⟩, ⟨s.regs.set R (rgA s.regs Q), (absR s).objs⟩) := by
    rw [← hres]
    rfl
  rw [hres]
  have HRES := hide hst
  clear hst hres
  unfold DoV.cells at hS0 ⊢
  dsimp only at hS0 ⊢
  obtain ⟨a1, _, a3, _⟩ := hS0.rules 1 (g := g) (t := 39) rfl
  have e0 := (a1 0).trans (show _ = some (.int .i64 3) from rfl)
  have e1 := (a1 1).trans (show _ = some (.int .i64 _) from rfl)
  have e2 := (a1 2).trans (show _ = some (.int .i64 _) from rfl)
  have e3 := (a1 3).trans (show _ = some (.int .i64 _) from rfl)
  have e4 := (a1 4).trans (show _ = some (.int .i64 _) from rfl)
  obtain ⟨b1, b2, b3, _⟩ := hS0.rules 2 (g := g + 1) (t := 41) rfl
  have f0 := (b1 0).trans (show _ = some (.int .i64 0) from rfl)
  have f1 := (b1 1).trans (show _ = some (.bool false) from rfl)
  have f2 := (b1 2).trans (show _ = some (.int .i64 0) from rfl)
  have hP0 : (rmI Bm s).P _ := hS0.get 0 rfl
  obtain ⟨m0, m1, m2, m3, m4⟩ := rm_mem hP0
  obtain ⟨L, hL⟩ : ∃ x, s.regs.length = x := ⟨_, rfl⟩
  rw [hL] at m0
  have hLL : L = 8 := by omega
  obtain ⟨r0, r1, r2, r3, r4⟩ := rm_reg hP0 h8 R hR
  obtain ⟨i0, i1, _, _, _⟩ := rm_reg hP0 h8 Q hQ
  obtain ⟨v, hv⟩ : ∃ v, rgA s.regs (Q : Int) = v := ⟨_, rfl⟩
  have HV := hide hv
  rw [hv] at i0 i1
  obtain ⟨bv, mv⟩ := v
  dsimp only at i0 i1
  clear hv
  have z1 : R < L := by omega
  have z2 : Q < L := by omega
  clear hL hLL
  have HS0 := hide hS0
  have HOK := hide ok
  clear a1 b1 hS0 hP0 hF hP ok hps
  go_enter Try.func81, Try.ntmps81
  go_wp2_with fail
  obtain ⟨W, hW⟩ : ∃ W, (w.alloc (.cells #[.int .i64 3, .int .i64 R, .int .i64 Q, .int .i64 at_, .int .i64 n] 39)).alloc (.cells #[.int .i64 0, .bool false, .int .i64 0] 41) = W := ⟨_, rfl⟩
  rw [hW] at HS0 e0 e1 e2 e3 e4 f0 f1 f2 m0 m1 m2 m3 m4 b2 b3 a3 r0 r1 r2 r3 r4 i0 i1 ⊢
  clear hW
  go_still_tail 14, hmx
  have HT := HS0.out.call 0 rfl (rm_setR (HS0.out.get 0 rfl) R (bv, mv))
  dsimp only at HT
  have HT2 := hide HT.drew
  clear HT
  go_wp2_with fail
  have hr := HRES.out
  rw [HV.out] at hr
  subst hr
  have hF2 := (((HT2.out).set_ 2 (g := g + 1) (t := 41) rfl 0 (.int .i64 0)).set_ 2 (g := g + 1) (t := 41) rfl 1 (.bool false)).set_ 2 (g := g + 1) (t := 41) rfl 2 (.int .i64 0)
  refine bodyPost_ret (v := .agg #[.int .i64 0, .bool false, .int .i64 0]) (by simp [results, Try.results81, go_sem, f0, f1, f2]) rfl ⟨s.setR R (bv, mv), rfl, rfl, hF2.sub (by simp), by (have h := HOK.out.k; simpa [RMem.setR, RMem.setO, RMem.newO] using h), by simp [goneD, RMem.setR, RMem.setO, RMem.newO]⟩
end Go.Proofs.Ytjphckfbbiehdaa

namespace Go.Proofs.Ytjphckfbbiehdaa
open Go.RowKit
set_option maxRecDepth 100000 in
set_option maxHeartbeats 16000000 in
theorem rdo_4 {Bm : Nat} {s : RMem} {w : World} (hP : (rmI Bm s).P w) (ok : ROk s) (R Q : Nat) (hR : R < 8) (hQ : Q < 8) (at_ n : Int) (hz : fErr (absR s).objs (rgA s.regs R) at_ = 0) : RDoOk Bm s w ⟨4, R, Q, at_, n⟩ := by
  unfold RDoOk
  obtain ⟨F, hF⟩ : ∃ F, (rmI Bm s).fp = F := ⟨_, rfl⟩
  obtain ⟨g, hg⟩ : ∃ g, w.heap.size = g := ⟨_, rfl⟩
  have hS0 := ((Sep.start hP).blkAt 39 (DoV.cells ⟨4, R, Q, at_, n⟩) (g := g) hg).blkAt 41 #[.int .i64 0, .bool false, .int .i64 0] (g := g + 1) (by simp [hg])
  rw [hF] at hS0 ⊢
  have h8 : s.regs.length = 8 := ok.m.r8
  have hps : (absR s).objs.length = s.obs.length := by simp [absR]
  have hgr := (rm_reg hP h8 0 (by omega)).2.2.2.2
  rw [hg] at hgr
  have q1 : s.gr ≠ g + 1 := by omega
  have q2 : s.gr ≠ g := by omega
  have hmx : Try.prog.follows .mixedOrders = true := by kernel_rfl
  obtain ⟨res, hres⟩ : ∃ r, stepK ⟨4, R, Q, at_, n⟩ (absR s) = r := ⟨_, rfl⟩
  have hst : res = (⟨0, false, 0⟩, ⟨s.regs, (absR s).objs.set (rgA s.regs R).2.toNat ((obA (absR s).objs (rgA s.regs R).2).set at_.toNat (rgA s.regs Q))⟩) := by
    rw [← hres]
    show (if fErr (absR s).objs (rgA s.regs R) at_ ≠ 0 then _ else _) = _
    rw [if_neg (by simp [hz])]
    rfl
  rw [hres]
  have HRES := hide hst
  clear hst hres
  obtain ⟨i, k, hRi, rfl, hi, hk, hkn, hn4, hoe⟩ := rferr_facts hP ok R hz
  have HRI := hide hRi
  have HOE := hide hoe
  obtain ⟨oA, hoA⟩ : ∃ x, s.obs[i].A = x := ⟨_, rfl⟩
  obtain ⟨oN, hoN⟩ : ∃ x, s.obs[i].n = x := ⟨_, rfl⟩
  obtain ⟨oC, hoC⟩ : ∃ x, s.obs[i].c = x := ⟨_, rfl⟩
  rw [hoN] at hkn hn4
  have hg2l := (rm_field hP hi hk)
  obtain ⟨g2', hA', _, _, _, _, hlt⟩ := hg2l
  rw [hg] at hlt
  clear hz
  unfold DoV.cells at hS0 ⊢
  dsimp only at hS0 ⊢
  obtain ⟨a1, _, a3, _⟩ := hS0.rules 1 (g := g) (t := 39) rfl
  have e0 := (a1 0).trans (show _ = some (.int .i64 4) from rfl)
  have e1 := (a1 1).trans (show _ = some (.int .i64 _) from rfl)
  have e2 := (a1 2).trans (show _ = some (.int .i64 _) from rfl)
  have e3 := (a1 3).trans (show _ = some (.int .i64 _) from rfl)
  have e4 := (a1 4).trans (show _ = some (.int .i64 _) from rfl)
  obtain ⟨b1, b2, b3, _⟩ := hS0.rules 2 (g := g + 1) (t := 41) rfl
  have f0 := (b1 0).trans (show _ = some (.int .i64 0) from rfl)
  have f1 := (b1 1).trans (show _ = some (.bool false) from rfl)
  have f2 := (b1 2).trans (show _ = some (.int .i64 0) from rfl)
  have hP0 : (rmI Bm s).P _ := hS0.get 0 rfl
  obtain ⟨m0, m1, m2, m3, m4⟩ := rm_mem hP0
  obtain ⟨L, hL⟩ : ∃ x, s.regs.length = x := ⟨_, rfl⟩
  rw [hL] at m0
  have hLL : L = 8 := by omega
  obtain ⟨ga, hga, o1, _⟩ := rm_ob hP0 hi
  obtain ⟨g2, hA, d1, d2, d3, d4, d5⟩ := rm_field hP0 hi hk
  obtain rfl : g2 = g2' := by rw [hA] at hA'; injection hA' with h; injection h
  have q3 : g2 ≠ g + 1 := by omega
  have q4 : g2 ≠ g := by omega
  rw [hA, hoN, hoC] at o1
  rw [hga] at m1
  have HA := hide hA
  clear hA hA' hlt hoA hoN hoC hga
  obtain ⟨r0, r1, _, _, r4⟩ := rm_reg hP0 h8 R hR
  obtain ⟨i0, i1, _, _, _⟩ := rm_reg hP0 h8 Q hQ
  rw [hRi] at r0 r1
  obtain ⟨v, hv⟩ : ∃ v, rgA s.regs (Q : Int) = v := ⟨_, rfl⟩
  have HV := hide hv
  rw [hv] at i0 i1
  obtain ⟨bv, mv⟩ := v
  dsimp only at i0 i1 r0 r1
  clear hv hRi hoe
  have z1 : R < L := by omega
  have z2 : Q < L := by omega
  clear hL hLL
  have HS0 := hide hS0
  have HOK := hide ok
  clear a1 b1 hS0 hP0 hF hP ok hps
  go_enter Try.func81, Try.ntmps81
  go_wp2_with fail
  obtain ⟨W, hW⟩ : ∃ W, (w.alloc (.cells #[.int .i64 4, .int .i64 R, .int .i64 Q, .int .i64 k, .int .i64 n] 39)).alloc (.cells #[.int .i64 0, .bool false, .int .i64 0] 41) = W := ⟨_, rfl⟩
  rw [hW] at HS0 e0 e1 e2 e3 e4 f0 f1 f2 m0 m1 m2 m3 m4 b2 b3 a3 r0 r1 r4 i0 i1 o1 d1 d2 d3 d4 d5 ⊢
  clear hW
  go_still_tail 26, hmx
  have HT := HS0.out.call 0 rfl (rm_setO (HS0.out.get 0 rfl) (k := k) hi HA.out (bv, mv))
  dsimp only at HT
  have HT2 := hide HT.drew
  clear HT
  go_wp2_with fail
  have hr := HRES.out
  rw [HRI.out] at hr
  dsimp only at hr
  rw [HOE.out, show ((i : Int)).toNat = i from by omega, show ((k : Int)).toNat = k from by omega, HV.out] at hr
  subst hr
  have hF2 := (((HT2.out).set_ 2 (g := g + 1) (t := 41) rfl 0 (.int .i64 0)).set_ 2 (g := g + 1) (t := 41) rfl 1 (.bool false)).set_ 2 (g := g + 1) (t := 41) rfl 2 (.int .i64 0)
  refine bodyPost_ret (v := .agg #[.int .i64 0, .bool false, .int .i64 0]) (by simp [results, Try.results81, go_sem, f0, f1, f2]) rfl ⟨s.setO i k (bv, mv) hi, rfl, absR_put s i k (bv, mv) hi, hF2.sub (by simp), by (have h := HOK.out.k; simpa [RMem.setR, RMem.setO, RMem.newO] using h), by simp [goneD, RMem.setR, RMem.setO, RMem.newO]⟩
set_option maxRecDepth 100000 in
set_option maxHeartbeats 16000000 in
theorem rdo_5 {Bm : Nat} {s : RMem} {w : World} (hP : (rmI Bm s).P w) (ok : ROk s) (R Q : Nat) (hR : R < 8) (hQ : Q < 8) (at_ n : Int) (hz : fErr (absR s).objs (rgA s.regs Q) at_ = 0) : RDoOk Bm s w ⟨5, R, Q, at_, n⟩ := by
  unfold RDoOk
  obtain ⟨F, hF⟩ : ∃ F, (rmI Bm s).fp = F := ⟨_, rfl⟩
  obtain ⟨g, hg⟩ : ∃ g, w.heap.size = g := ⟨_, rfl⟩
  have hS0 := ((Sep.start hP).blkAt 39 (DoV.cells ⟨5, R, Q, at_, n⟩) (g := g) hg).blkAt 41 #[.int .i64 0, .bool false, .int .i64 0] (g := g + 1) (by simp [hg])
  rw [hF] at hS0 ⊢
  have h8 : s.regs.length = 8 := ok.m.r8
  have hps : (absR s).objs.length = s.obs.length := by simp [absR]
  have hgr := (rm_reg hP h8 0 (by omega)).2.2.2.2
  rw [hg] at hgr
  have q1 : s.gr ≠ g + 1 := by omega
  have q2 : s.gr ≠ g := by omega
  have hmx : Try.prog.follows .mixedOrders = true := by kernel_rfl
  obtain ⟨res, hres⟩ : ∃ r, stepK ⟨5, R, Q, at_, n⟩ (absR s) = r := ⟨_, rfl⟩
  have hst : res = (⟨0, false, 0⟩, ⟨s.regs.set R ((obA (absR s).objs (rgA s.regs Q).2).getD at_.toNat (false, 0)), (absR s).objs⟩) := by
    rw [← hres]
    show (if fErr (absR s).objs (rgA s.regs Q) at_ ≠ 0 then _ else _) = _
    rw [if_neg (by simp [hz])]
    rfl
  rw [hres]
  have HRES := hide hst
  clear hst hres
  obtain ⟨i, k, hRi, rfl, hi, hk, hkn, hn4, hoe⟩ := rferr_facts hP ok Q hz
  have HRI := hide hRi
  have HOE := hide hoe
  obtain ⟨oA, hoA⟩ : ∃ x, s.obs[i].A = x := ⟨_, rfl⟩
  obtain ⟨oN, hoN⟩ : ∃ x, s.obs[i].n = x := ⟨_, rfl⟩
  obtain ⟨oC, hoC⟩ : ∃ x, s.obs[i].c = x := ⟨_, rfl⟩
  rw [hoN] at hkn hn4
  have hg2l := (rm_field hP hi hk)
  obtain ⟨g2', hA', _, _, _, _, hlt⟩ := hg2l
  rw [hg] at hlt
  clear hz
  unfold DoV.cells at hS0 ⊢
  dsimp only at hS0 ⊢
  obtain ⟨a1, _, a3, _⟩ := hS0.rules 1 (g := g) (t := 39) rfl
  have e0 := (a1 0).trans (show _ = some (.int .i64 5) from rfl)
  have e1 := (a1 1).trans (show _ = some (.int .i64 _) from rfl)
  have e2 := (a1 2).trans (show _ = some (.int .i64 _) from rfl)
  have e3 := (a1 3).trans (show _ = some (.int .i64 _) from rfl)
  have e4 := (a1 4).trans (show _ = some (.int .i64 _) from rfl)
  obtain ⟨b1, b2, b3, _⟩ := hS0.rules 2 (g := g + 1) (t := 41) rfl
  have f0 := (b1 0).trans (show _ = some (.int .i64 0) from rfl)
  have f1 := (b1 1).trans (show _ = some (.bool false) from rfl)
  have f2 := (b1 2).trans (show _ = some (.int .i64 0) from rfl)
  have hP0 : (rmI Bm s).P _ := hS0.get 0 rfl
  obtain ⟨m0, m1, m2, m3, m4⟩ := rm_mem hP0
  obtain ⟨L, hL⟩ : ∃ x, s.regs.length = x := ⟨_, rfl⟩
  rw [hL] at m0
  have hLL : L = 8 := by omega
  obtain ⟨ga, hga, o1, _⟩ := rm_ob hP0 hi
  obtain ⟨g2, hA, d1, d2, d3, d4, d5⟩ := rm_field hP0 hi hk
  obtain rfl : g2 = g2' := by rw [hA] at hA'; injection hA' with h; injection h
  have q3 : g2 ≠ g + 1 := by omega
  have q4 : g2 ≠ g := by omega
  rw [hA, hoN, hoC] at o1
  rw [hga] at m1
  have HA := hide hA
  clear hA hA' hlt hoA hoN hoC hga
  obtain ⟨r0, r1, r2, r3, r4⟩ := rm_reg hP0 h8 R hR
  obtain ⟨i0, i1, _, _, _⟩ := rm_reg hP0 h8 Q hQ
  rw [hRi] at i0 i1
  obtain ⟨v, hv⟩ : ∃ v, s.obs[i].fields[k] = v := ⟨_, rfl⟩
  have HV := hide (show s.obs[i].fields[k]? = some v from (List.getElem?_eq_getElem hk).trans (congrArg some hv))
  rw [hv] at d1 d2
  obtain ⟨bv, mv⟩ := v
  dsimp only at i0 i1 d1 d2
  clear hv hRi hoe
  have z1 : R < L := by omega
  have z2 : Q < L := by omega
  clear hL hLL
  have HS0 := hide hS0
  have HOK := hide ok
  clear a1 b1 hS0 hP0 hF hP ok hps
  go_enter Try.func81, Try.ntmps81
  go_wp2_with fail
  obtain ⟨W, hW⟩ : ∃ W, (w.alloc (.cells #[.int .i64 5, .int .i64 R, .int .i64 Q, .int .i64 k, .int .i64 n] 39)).alloc (.cells #[.int .i64 0, .bool false, .int .i64 0] 41) = W := ⟨_, rfl⟩
  rw [hW] at HS0 e0 e1 e2 e3 e4 f0 f1 f2 m0 m1 m2 m3 m4 b2 b3 a3 r0 r1 r2 r3 r4 i0 i1 o1 d1 d2 d3 d4 d5 ⊢
  clear hW
  go_still_tail 26, hmx
  have HT := HS0.out.call 0 rfl (rm_setR (HS0.out.get 0 rfl) R (bv, mv))
  dsimp only at HT
  have HT2 := hide HT.drew
  clear HT
  go_wp2_with fail
  have hr := HRES.out
  rw [HRI.out] at hr
  dsimp only at hr
  rw [HOE.out, show ((k : Int)).toNat = k from by omega, List.getD_eq_getElem?_getD, HV.out, Option.getD_some] at hr
  subst hr
  have hF2 := (((HT2.out).set_ 2 (g := g + 1) (t := 41) rfl 0 (.int .i64 0)).set_ 2 (g := g + 1) (t := 41) rfl 1 (.bool false)).set_ 2 (g := g + 1) (t := 41) rfl 2 (.int .i64 0)
  refine bodyPost_ret (v := .agg #[.int .i64 0, .bool false, .int .i64 0]) (by simp [results, Try.results81, go_sem, f0, f1, f2]) rfl ⟨s.setR R (bv, mv), rfl, rfl, hF2.sub (by simp), by (have h := HOK.out.k; simpa [RMem.setR, RMem.setO, RMem.newO] using h), by simp [goneD, RMem.setR, RMem.setO, RMem.newO]⟩
end Go.Proofs.Ytjphckfbbiehdaa

namespace Go.Proofs.Ytjphckfbbiehdaa
open Go.RowKit
theorem sBoolR : SliceT Try.prog 63 4 1 1 := SliceT.mk_ Try.underlying63 (z := .bool false) (by kernel_rfl) rfl (by omega)
theorem rm_new_fin {Bm g gn n m R N : Nat} {s : RMem} {F : Nat → Prop} {W X : World} {cs : Array Value} {A7 A9 : Option Addr} {c7 c9 : Nat} (h8 : s.regs.length = 8) (hn : s.obs.length = n) (hm : s.gone.length = m)
    (h : Sep F W X (blkI g 39 cs :: rowI 107 2 (some ⟨gn, 0, none⟩) N N (vals (zeroVs N)) :: blkI Bm 176 #[.slice (some ⟨s.gr, 0, none⟩) 8 s.cR, .slice A7 (n + 1) c7, .slice A9 (m + 1) c9] :: rowI 107 2 (some ⟨s.gr, 0, none⟩) 8 s.cR (vals (s.regs.set R (true, (n : Int)))) :: rowI 119 1 A7 (n + 1) c7 (s.obs.map Ob.val ++ [.slice (some ⟨gn, 0, none⟩) N N]) :: rowI 4 1 A9 (m + 1) c9 (bools s.gone ++ [.bool false]) :: s.obs.map obI)) :
    Sep F W X [rmI Bm (s.newO A7 c7 A9 c9 gn R N)] := by
  have h1 := (h.sub (List.sublist_cons_self _ _)).perm (List.perm_append_comm (l₁ := [_]))
  refine Sep.fold (l := rmL Bm (s.newO A7 c7 A9 c9 gn R N)) ?_
  unfold rmL RMem.newO
  dsimp only
  rw [List.length_set, h8, List.length_append, List.length_append, List.length_singleton, List.length_singleton, hn, hm, List.map_append, List.map_append]
  unfold bools at h1 ⊢
  rw [List.map_append]
  exact h1
set_option maxRecDepth 100000 in
set_option maxHeartbeats 16000000 in
theorem rnew_any {Bm : Nat} {s : RMem} {w : World} (hP : (rmI Bm s).P w) (h8 : s.regs.length = 8) (hn : s.obs.length ≤ 1000) (hgn : s.gone.length ≤ 1000) {R N : Nat} (hR : R < 8) (h4 : N ≤ 4) (fr at_ : Int) :
    Calls Try.prog 140 #[.pointer (some ⟨Bm, 0, none⟩), .agg #[.int .i64 1, .int .i64 R, .int .i64 fr, .int .i64 at_, .int .i64 N]] w fun e w' => (∃ u, e = .returned u) ∧ ∃ Ao co Ag cg gn, Sep (rmI Bm s).fp w w' [rmI Bm (s.newO Ao co Ag cg gn R N)] := by
  obtain ⟨F, hF⟩ : ∃ F, (rmI Bm s).fp = F := ⟨_, rfl⟩
  obtain ⟨g, hg⟩ : ∃ g, w.heap.size = g := ⟨_, rfl⟩
  have hS0 : Sep F w w (rmL Bm s) := by rw [← hF]; exact (Sep.start hP).flat
  have hS1 := hS0.blkAt 39 #[.int .i64 1, .int .i64 R, .int .i64 fr, .int .i64 at_, .int .i64 N] (g := g) hg
  have hS2 := hS1.blkAt 107 (vals (zeroVs N)).toArray (g := g + 1) (by simp [hg])
  rw [hF]
  obtain ⟨n, hnn⟩ : ∃ n, s.obs.length = n := ⟨_, rfl⟩
  obtain ⟨m, hmm⟩ : ∃ m, s.gone.length = m := ⟨_, rfl⟩
  have hS3 : Sep F w ((w.alloc (.cells #[.int .i64 1, .int .i64 R, .int .i64 fr, .int .i64 at_, .int .i64 N] 39)).alloc (.cells (vals (zeroVs N)).toArray 107)) (blkI g 39 #[.int .i64 1, .int .i64 R, .int .i64 fr, .int .i64 at_, .int .i64 N] :: rowI 107 2 (some ⟨g + 1, 0, none⟩) N N (vals (zeroVs N)) :: blkI Bm 176 #[.slice (some ⟨s.gr, 0, none⟩) 8 s.cR, .slice s.Ao n s.co, .slice s.Ag m s.cg] :: rowI 107 2 (some ⟨s.gr, 0, none⟩) 8 s.cR (vals s.regs) :: rowI 119 1 s.Ao n s.co (s.obs.map Ob.val) :: rowI 4 1 s.Ag m s.cg (bools s.gone) :: s.obs.map obI) := by
    have h1 := hS2.perm (l := blkI (g + 1) 107 (vals (zeroVs N)).toArray :: blkI g 39 #[.int .i64 1, .int .i64 R, .int .i64 fr, .int .i64 at_, .int .i64 N] :: rmL Bm s) (List.perm_append_comm.trans ((List.perm_append_comm (l₁ := rmL Bm s)).cons _))
    have hb := h1.get 0 rfl
    have hr := hrow_of_blk (n := N) (size := 2) (show Blk _ _ _ _ from hb) (by have := vals_length (zeroVs N); simp [zeroVs] at this ⊢; omega) (by unfold maxLen; omega)
    have h2 := h1.step 0 rfl (Chg.refl _ _) (rowI 107 2 (some ⟨g + 1, 0, none⟩) N N (vals (zeroVs N)).toArray.toList) hr (fun g' hg' => .inl (by
      have : g + 1 = g' := by simpa [rowI, Value.ownBlock] using hg'
      exact this.symm))
    unfold rmL at h2
    rw [hnn, hmm, h8] at h2
    exact h2.perm (List.Perm.swap _ _ _)
  obtain ⟨a1, _, a3, _⟩ := hS3.rules 0 (g := g) (t := 39) rfl
  have e1 := (a1 1).trans (show _ = some (.int .i64 (R : Int)) from rfl)
  obtain ⟨b1, b2, b3, _⟩ := hS0.rules 0 (g := Bm) (t := 176) rfl
  rw [hg] at b3
  have hgr := (rm_reg hP h8 0 (by omega)).2.2.2.2
  rw [hg] at hgr
  have q1 : Bm ≠ g := by omega
  have q2 : s.gr ≠ g := by omega
  have hmx : Try.prog.follows .mixedOrders = true := by kernel_rfl
  have hmk := hval_make N h4
  have HS3 := hide hS3
  obtain ⟨_, _, B3, _⟩ := hS3.rules 2 (g := Bm) (t := 176) rfl
  have HNN := hide hnn
  have HMM := hide hmm
  rw [hnn] at hn
  rw [hmm] at hgn
  have m1 := (b1 1).trans (show _ = some (.slice s.Ao s.obs.length s.co) from rfl)
  rw [hnn] at m1
  have m2 : (w.alloc (.cells #[.int .i64 1, .int .i64 R, .int .i64 fr, .int .i64 at_, .int .i64 N] 39)).cell? ⟨Bm, 1, none⟩ = some (.slice s.Ao n s.co) := (World.cell?_alloc_lt w _ _ (by show Bm < w.heap.size; omega)).trans m1
  have m3 : ((w.alloc (.cells #[.int .i64 1, .int .i64 R, .int .i64 fr, .int .i64 at_, .int .i64 N] 39)).alloc (.cells (vals (zeroVs N)).toArray 107)).cell? ⟨Bm, 1, none⟩ = some (.slice s.Ao n s.co) := (World.cell?_alloc_lt _ _ _ (by simp; omega)).trans m2
  have m4 : (((w.alloc (.cells #[.int .i64 1, .int .i64 R, .int .i64 fr, .int .i64 at_, .int .i64 N] 39)).alloc (.cells (vals (zeroVs N)).toArray 107)).alloc (.cells #[.slice (some ⟨g + 1, 0, none⟩) N N] 119)).cell? ⟨Bm, 1, none⟩ = some (.slice s.Ao n s.co) := (World.cell?_alloc_lt _ _ _ (by simp; omega)).trans m3
  clear hS0 hS1 hS2 hS3 hP hnn hmm hF a1 b1 hgr b2 e1
  go_enter Try.func140, Try.ntmps140
  go_wp2_with fail
  go_region_law (first
    | (refine step_app1d (cs := #[.slice (some ⟨g + 1, 0, none⟩) N N]) rfl (.tmp 8) (.tmp 13) 24 rfl (F := F) (W := w) sObj (items := _ :: _ :: _ :: _ :: _ :: _) HS3.out 4 (n := n) rfl rfl rfl (by simp [hg]) rfl rfl (by omega) ?_
       intro A7 c7 w7 hS7 hC7
       obtain ⟨z1, z2, z3, z4⟩ := hS7.rules 2 (g := Bm) (t := 176) rfl
       (have z5 := (z1 1).trans (show _ = some (.slice s.Ao n s.co) from rfl))
       clear z1 z4))
  all_goals
    have hS8 := hS7.set_ 2 (g := Bm) (t := 176) rfl 1 (.slice A7 (n + 1) c7)
    obtain ⟨W8, hW8⟩ : ∃ W, w7.setCell ⟨Bm, 1, none⟩ (.slice A7 (n + 1) c7) = W := ⟨_, rfl⟩
    rw [hW8] at hS8 ⊢
    obtain ⟨y1, y2, y3, _⟩ := hS8.rules 2 (g := Bm) (t := 176) rfl
    have y5 := (y1 2).trans (show _ = some (.slice s.Ag m s.cg) from rfl)
    clear hS7 hC7 hW8 y1
    go_wp2_with (first
      | (at_builtin
         refine wpList_app1 (cs := #[.bool false]) rfl (.tmp 21) (.tmp 22) 63 rfl sBoolR hS8 5 (n := m) rfl rfl rfl (by simp) rfl rfl (by omega) ?_
         intro A9 c9 w9 hS9 hC9
         obtain ⟨x1, x2, x3, _⟩ := hS9.rules 2 (g := Bm) (t := 176) rfl
         (have x5 := (x1 2).trans (show _ = some (.slice s.Ag m s.cg) from rfl))
         (have HSA := hide (hS9.set_ 2 (g := Bm) (t := 176) rfl 2 (.slice A9 (m + 1) c9)))
         clear hS8 hS9 hC9 x1))
    obtain ⟨WA, hWA⟩ : ∃ W, w9.setCell ⟨Bm, 2, none⟩ (.slice A9 (m + 1) c9) = W := ⟨_, rfl⟩
    rw [hWA] at HSA ⊢
    obtain ⟨u1, u2, u3, _⟩ := HSA.out.rules 2 (g := Bm) (t := 176) rfl
    obtain ⟨L, hL⟩ : ∃ x : Nat, x = 8 := ⟨8, rfl⟩
    have u5 := (u1 0).trans (show _ = some (.slice (some ⟨s.gr, 0, none⟩) L s.cR) from by rw [hL]; rfl)
    have u6 := (u1 1).trans (show _ = some (.slice A7 (n + 1) c7) from rfl)
    obtain ⟨t1, t2, t3, _⟩ := HSA.out.rules 0 (g := g) (t := 39) rfl
    have t5 := (t1 1).trans (show _ = some (.int .i64 (R : Int)) from rfl)
    have z1 : R < L := by omega
    obtain ⟨r0, r1, r2, r3⟩ := hrow_val (show (rowI 107 2 (some ⟨s.gr, 0, none⟩) 8 s.cR (vals s.regs)).P WA from HSA.out.get 3 rfl) R (by omega) (by omega)
    have r4 := HSA.out.hi 3 rfl s.gr rfl
    have h9 := HSA.out.store2 3 (g := s.gr) rfl (R * 2) (.bool true) (.int .i64 (n : Int))
    rw [vals_set2] at h9
    have HS9 := hide h9
    clear hL hWA u1 t1 HSA h9
    go_still_tail 13, hmx
    go_wp2_with fail
    go_end0
    exact ⟨⟨_, rfl⟩, A7, c7, A9, c9, g + 1, rm_new_fin h8 HNN.out HMM.out HS9.out.drew⟩
end Go.Proofs.Ytjphckfbbiehdaa
