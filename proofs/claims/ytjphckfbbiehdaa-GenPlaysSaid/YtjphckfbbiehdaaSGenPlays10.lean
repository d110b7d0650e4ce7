/- A machine over a memory of whatever kind: what it does, on. -/
import Derived.Test.YtjphckfbbiehdaaSGenPlays9
set_option linter.unusedSimpArgs false
set_option linter.unusedVariables false
namespace Go.Proofs.Ytjphckfbbiehdaa
open Go.RowKit
set_option maxRecDepth 100000 in
set_option maxHeartbeats 16000000 in
theorem kdo_5 (K : MemK) (h : K.Ok) {s : K.St} {w : World} (hP : (K.item s).P w) (ok1 : K.ok1 (K.abs s)) (to fr at_ n : Int) (hw : wrongM ⟨5, to, fr, at_, n⟩ = 0) : K.DoOk s w ⟨5, to, fr, at_, n⟩ := by
  have ok := h.ok_of _ ok1
  unfold MemK.DoOk
  obtain ⟨F, hF⟩ : ∃ F, (K.item s).fp = F := ⟨_, rfl⟩
  obtain ⟨g, hg⟩ : ∃ g, w.heap.size = g := ⟨_, rfl⟩
  have hS0 := ((Sep.start hP).blkAt 39 (DoV.cells ⟨5, to, fr, at_, n⟩) (g := g) hg).blkAt 41 #[.int .i64 0, .bool false, .int .i64 0] (g := g + 1) (by simp [hg])
  rw [hF] at hS0 ⊢
  have h8 : (K.regs (K.abs s)).length = 8 := h.r8 _ ok
  have HST := hide (show K.step ⟨5, to, fr, at_, n⟩ (K.abs s) = if K.fErr (K.abs s) (rgA (K.regs (K.abs s)) fr) at_ ≠ 0 then (⟨K.fErr (K.abs s) (rgA (K.regs (K.abs s)) fr) at_, false, 0⟩, K.abs s) else (⟨0, false, 0⟩, K.sh (K.abs s) to.toNat (((K.fld (K.abs s) (rgA (K.regs (K.abs s)) fr).2.toNat).getD []).getD at_.toNat (false, 0))) from by
    unfold MemK.step
    rw [if_neg (by rw [hw]; simp)]
    unfold MemK.kstep
    dsimp only
    rw [if_neg (show ¬(5 : Int) = 1 by decide), if_neg (show ¬(5 : Int) = 2 by decide), if_neg (show ¬(5 : Int) = 3 by decide), if_neg (show ¬(5 : Int) = 4 by decide), if_pos rfl])
  obtain ⟨res, hres⟩ : ∃ r, K.step ⟨5, to, fr, at_, n⟩ (K.abs s) = r := ⟨_, rfl⟩
  rw [hres] at HST ⊢
  clear hres
  have HCW := wrong_any ((w.alloc (.cells (DoV.cells ⟨5, to, fr, at_, n⟩) 39)).alloc (.cells #[.int .i64 0, .bool false, .int .i64 0] 41)) ⟨5, to, fr, at_, n⟩
  rw [hw] at HCW
  replace HCW := hide HCW
  obtain ⟨t0, t1⟩ := wrongM_to hw (by show (5 : Int) ≠ 7; decide)
  dsimp only at t0 t1
  obtain ⟨R, rfl⟩ := int_nat t0
  have hR : R < 8 := by omega
  rw [show ((R : Int)).toNat = R from by omega] at HST
  obtain ⟨u0, u1⟩ := wrongM_fr hw (by show (5 : Int) ≠ 1; decide) (by show (5 : Int) ≠ 2; decide)
  dsimp only at u0 u1
  obtain ⟨Q, rfl⟩ := int_nat u0
  have hQ : Q < 8 := by omega
  have HS0 := hide hS0
  unfold DoV.cells at HCW HS0 ⊢
  dsimp only at HCW HS0 ⊢
  obtain ⟨a1, a2, a3, a4⟩ := HS0.out.rules 1 (g := g) (t := 39) rfl
  have e0 := (a1 0).trans (show _ = some (.int .i64 5) from rfl)
  have e1 := (a1 1).trans (show _ = some (.int .i64 _) from rfl)
  have e2 := (a1 2).trans (show _ = some (.int .i64 _) from rfl)
  have e3 := (a1 3).trans (show _ = some (.int .i64 _) from rfl)
  have e4 := (a1 4).trans (show _ = some (.int .i64 _) from rfl)
  have HOK := hide ok
  have HOK1 := hide ok1
  have HH := hide h
  clear hS0 hF hP a1 a4 hw ok ok1 h
  go_enter Try.func43, Try.ntmps43
  go_wp2_with fail
  refine HCW.out.mono ?_
  rintro e w1 ⟨rfl, hb1⟩
  have hS1 := HS0.out.below hb1
  obtain ⟨b1, b2, b3, b4⟩ := hS1.rules 2 (g := g + 1) (t := 41) rfl
  have f0 := (b1 0).trans (show _ = some (.int .i64 0) from rfl)
  have f1 := (b1 1).trans (show _ = some (.bool false) from rfl)
  have f2 := (b1 2).trans (show _ = some (.int .i64 0) from rfl)
  obtain ⟨a1, a2', a3', a4⟩ := hS1.rules 1 (g := g) (t := 39) rfl
  have e0 := (a1 0).trans (show _ = some (.int .i64 5) from rfl)
  have e1 := (a1 1).trans (show _ = some (.int .i64 _) from rfl)
  have e2 := (a1 2).trans (show _ = some (.int .i64 _) from rfl)
  have e3 := (a1 3).trans (show _ = some (.int .i64 _) from rfl)
  have e4 := (a1 4).trans (show _ = some (.int .i64 _) from rfl)
  clear a1 a4 b1 b4
  have HS1 := hide hS1
  clear hb1 HS0 HCW a2 a3
  have hP1 : (K.item s).P w1 := hS1.get 0 rfl
  obtain ⟨i3, i4, i1, i2⟩ := K.cells hP1 h8 Q hQ
  have hvv := K.vok_rg HH.out HOK.out (Q : Int)
  obtain ⟨v, hv⟩ : ∃ v, rgA (K.regs (K.abs s)) (Q : Int) = v := ⟨_, rfl⟩
  rw [hv] at i3 i4 hvv HST
  have HVV := hide hvv
  clear hv hS1 hP1 hvv
  obtain ⟨bv, mv⟩ := v
  dsimp only at i3 i4
  go_wp2_with fail
  have q1 : g ≠ w1.heap.size := by omega
  have q2 : K.Bm ≠ w1.heap.size := by omega
  go_region_held3 (fun w' => w'.cell? ⟨g, 2, none⟩ = some (.int .i64 (Q : Int)) ∧ w'.cell? ⟨K.Bm, Q * 2, none⟩ = some (.bool bv) ∧ w'.cell? ⟨K.Bm, Q * 2 + 1, none⟩ = some (.int .i64 mv)) (simp (config := { maxDischargeDepth := 8 }) [*, World.cell?_alloc_some]) (fail)
  have hSv := (HS1.out.blkAt 107 #[.bool bv, .int .i64 mv] (g := w1.heap.size) rfl).drew
  have CF := kfield_any K HH.out (hSv.get 0 rfl) HOK.out (bv, mv) at_ HVV.out
  dsimp only at CF
  obtain ⟨x, hx⟩ : ∃ x, K.fErr (K.abs s) (bv, mv) at_ = x := ⟨_, rfl⟩
  rw [hx] at CF HST
  have HX := hide hx
  have HCF := hide CF
  obtain ⟨gv, hgv⟩ : ∃ g, w1.heap.size = g := ⟨_, rfl⟩
  obtain ⟨v1, v2, v3, _⟩ := hSv.rules 3 (g := w1.heap.size) (t := 107) rfl
  have v4 := (v1 0).trans (show _ = some (.bool bv) from rfl)
  have v5 := (v1 1).trans (show _ = some (.int .i64 mv) from rfl)
  obtain ⟨b1, b2, b3, b4⟩ := hSv.rules 2 (g := g + 1) (t := 41) rfl
  have f0 := (b1 0).trans (show _ = some (.int .i64 0) from rfl)
  have f1 := (b1 1).trans (show _ = some (.bool false) from rfl)
  have f2 := (b1 2).trans (show _ = some (.int .i64 0) from rfl)
  obtain ⟨a1, a2', a3', a4⟩ := hSv.rules 1 (g := g) (t := 39) rfl
  have e0 := (a1 0).trans (show _ = some (.int .i64 5) from rfl)
  have e1 := (a1 1).trans (show _ = some (.int .i64 _) from rfl)
  have e2 := (a1 2).trans (show _ = some (.int .i64 _) from rfl)
  have e3 := (a1 3).trans (show _ = some (.int .i64 _) from rfl)
  have e4 := (a1 4).trans (show _ = some (.int .i64 _) from rfl)
  clear a1 a4 b1 b4
  have HSV := hide hSv
  clear hSv CF hx v1
  obtain ⟨W, hW⟩ : ∃ W, (w1.alloc (.cells #[.bool bv, .int .i64 mv] 107)).drew = W := ⟨_, rfl⟩
  rw [hW] at HSV HCF v2 v3 v4 v5 f0 f1 f2 e0 e1 e2 e3 e4 ⊢
  clear hW q1 q2 i1 i2 i3 i4
  try rw [hgv] at v4
  try rw [hgv] at v5
  try rw [hgv] at HSV
  try rw [hgv] at v2
  rw [hgv]
  clear hgv
  go_wp2_with fail
  refine HCF.out.mono ?_
  rintro e w3 ⟨rfl, hb3⟩
  have hS3 := HSV.out.below hb3
  obtain ⟨b1, b2, b3, b4⟩ := hS3.rules 2 (g := g + 1) (t := 41) rfl
  have f0 := (b1 0).trans (show _ = some (.int .i64 0) from rfl)
  have f1 := (b1 1).trans (show _ = some (.bool false) from rfl)
  have f2 := (b1 2).trans (show _ = some (.int .i64 0) from rfl)
  obtain ⟨a1, a2', a3', a4⟩ := hS3.rules 1 (g := g) (t := 39) rfl
  have e0 := (a1 0).trans (show _ = some (.int .i64 5) from rfl)
  have e1 := (a1 1).trans (show _ = some (.int .i64 _) from rfl)
  have e2 := (a1 2).trans (show _ = some (.int .i64 _) from rfl)
  have e3 := (a1 3).trans (show _ = some (.int .i64 _) from rfl)
  have e4 := (a1 4).trans (show _ = some (.int .i64 _) from rfl)
  clear a1 a4 b1 b4
  obtain ⟨v1, v2, v3, _⟩ := hS3.rules 3 (g := gv) (t := 107) rfl
  have v4 := (v1 0).trans (show _ = some (.bool bv) from rfl)
  have v5 := (v1 1).trans (show _ = some (.int .i64 mv) from rfl)
  clear hb3 HSV HCF v1
  have HS3 := hide hS3
  clear hS3 HS1
  by_cases hxz : x = 0
  · subst hxz
    obtain ⟨rfl, i, k, fs, rfl, rfl, hfs, hk, h4, h1k⟩ := kerr_facts K HH.out HOK.out HVV.out HX.out
    obtain ⟨i3, i4, i1, i2⟩ := K.cells (HS3.out.get 0 rfl) h8 Q hQ
    have hS3d := HS3.out.drew
    obtain ⟨u, hu⟩ : ∃ u, fs[k] = u := ⟨_, rfl⟩
    have huu : K.vok (K.abs s) u := by rw [← hu]; exact HH.out.vf _ _ _ _ HOK.out hfs (List.getElem_mem hk)
    have CP := HH.out.cG s w3.drew i k fs hk (hS3d.get 0 rfl) HOK.out hfs
    rw [hu] at CP
    have HU := hide (show fs[k]? = some u from (List.getElem?_eq_getElem hk).trans (congrArg some hu))
    have CMG := hide (fun (W : World) (hP : (K.item s).P W) => kset_any K HH.out hP HOK.out u hR huu)
    have hme := HH.out.mG s w3.drew (hS3d.get 0 rfl)
    have hent := HH.out.eG
    obtain ⟨fG, hfG⟩ : ∃ x, K.fG = x := ⟨_, rfl⟩
    obtain ⟨rG, hrG⟩ : ∃ x, K.rG s = x := ⟨_, rfl⟩
    simp only [hfG, hrG] at CP hme hent
    replace CP := hide CP
    have HRS := hide (show (K.regs (K.setr (K.hold (K.abs s) R u) R u)).length = 8 from by rw [HH.out.regs_set, HH.out.regs_hold, List.length_set]; exact h8)
    obtain ⟨bu, mu⟩ := u
    dsimp only at CP CMG HRS
    have HFS := hide hfs
    clear hS3d hu HVV i3 i4 huu hfG hrG hfs
    go_wp2_with fail
    go_region_held3 (fun w' => w'.cell? ⟨K.Bm, 16, none⟩ = some (.iface K.T K.p) ∧ w'.cell? ⟨gv, 1, none⟩ = some (.int .i64 (i : Int)) ∧ w'.cell? ⟨g, 3, none⟩ = some (.int .i64 (k : Int)) ∧ w'.cell? ⟨g, 1, none⟩ = some (.int .i64 (R : Int))) (go_keep)
      (first
       | ((with_reducible refine CP.out.mono ?_); rintro e w4 ⟨rfl, hb4⟩; have hS4 := HS3.out.drew.below hb4; obtain ⟨_, _, k1, k2⟩ := K.cells (hS4.get 0 rfl) h8 Q hQ; obtain ⟨a1, _, a3, _⟩ := hS4.rules 1 (g := g) (t := 39) rfl; have k5 := (a1 1).trans (show _ = some (.int .i64 (R : Int)) from rfl); have k6 := (a1 3).trans (show _ = some (.int .i64 (k : Int)) from rfl); obtain ⟨c1, _, c3, _⟩ := hS4.rules 3 (g := gv) (t := 107) rfl; have k7 := (c1 1).trans (show _ = some (.int .i64 (i : Int)) from rfl); have CM := hide (CMG.out _ (hS4.get 0 rfl)); have HS4 := hide hS4; clear hb4 hS4 a1 c1 hme)
       | (go_at_call 108; (with_reducible refine CM.out.mono ?_); rintro e w5 ⟨⟨u, rfl⟩, s5, hab5, hP5⟩; have hS5 := HS4.out.call 0 rfl hP5; have HAB := hide hab5; obtain ⟨_, _, k1, k2⟩ := K.cells (hS5.get 0 rfl) (by rw [HAB.out]; exact HRS.out) Q hQ; obtain ⟨a1, _, a3, _⟩ := hS5.rules 1 (g := g) (t := 39) rfl; have k5 := (a1 1).trans (show _ = some (.int .i64 (R : Int)) from rfl); have k6 := (a1 3).trans (show _ = some (.int .i64 (k : Int)) from rfl); obtain ⟨c1, _, c3, _⟩ := hS5.rules 3 (g := gv) (t := 107) rfl; have k7 := (c1 1).trans (show _ = some (.int .i64 (i : Int)) from rfl); have HS5 := hide hS5; clear hP5 hS5 a1 c1 hab5))
    all_goals
      have hS5 := HS5.out
      obtain ⟨b1, b2, b3, b4⟩ := hS5.rules 2 (g := g + 1) (t := 41) rfl
      have f0 := (b1 0).trans (show _ = some (.int .i64 0) from rfl)
      have f1 := (b1 1).trans (show _ = some (.bool false) from rfl)
      have f2 := (b1 2).trans (show _ = some (.int .i64 0) from rfl)
      clear hS5 b1 b4
      go_wp2_with fail
      have hr := HST.out
      rw [if_neg (by simp)] at hr
      try dsimp only at hr
      rw [show ((i : Int)).toNat = i from by omega, show ((k : Int)).toNat = k from by omega, HFS.out, Option.getD_some, List.getD_eq_getElem?_getD, HU.out, Option.getD_some] at hr
      subst hr
      have hF := (((HS5.out).set_ 2 (g := g + 1) (t := 41) rfl 0 (.int .i64 0)).set_ 2 (g := g + 1) (t := 41) rfl 1 (.bool false)).set_ 2 (g := g + 1) (t := 41) rfl 2 (.int .i64 0)
      refine bodyPost_ret (v := .agg #[.int .i64 0, .bool false, .int .i64 0]) (by simp [results, Try.results43, go_sem, f0, f1, f2]) rfl ⟨rfl, s5, HAB.out, hF.sub (by simp)⟩
  · have y1 : (x != 0) = true := by rw [bne_iff_ne]; exact hxz
    go_wp2_with fail
    have hr := HST.out
    rw [if_pos hxz] at hr
    subst hr
    have hF := (((HS3.out).set_ 2 (g := g + 1) (t := 41) rfl 0 (.int .i64 x)).set_ 2 (g := g + 1) (t := 41) rfl 1 (.bool false)).set_ 2 (g := g + 1) (t := 41) rfl 2 (.int .i64 0)
    refine bodyPost_ret (v := .agg #[.int .i64 x, .bool false, .int .i64 0]) (by simp [results, Try.results43, go_sem, f0, f1, f2]) rfl ⟨rfl, s, rfl, hF.sub (by simp)⟩
set_option maxRecDepth 100000 in
set_option maxHeartbeats 16000000 in
theorem kdo_6 (K : MemK) (h : K.Ok) {s : K.St} {w : World} (hP : (K.item s).P w) (ok1 : K.ok1 (K.abs s)) (to fr at_ n : Int) (hw : wrongM ⟨6, to, fr, at_, n⟩ = 0) : K.DoOk s w ⟨6, to, fr, at_, n⟩ := by
  have ok := h.ok_of _ ok1
  unfold MemK.DoOk
  obtain ⟨F, hF⟩ : ∃ F, (K.item s).fp = F := ⟨_, rfl⟩
  obtain ⟨g, hg⟩ : ∃ g, w.heap.size = g := ⟨_, rfl⟩
  have hS0 := ((Sep.start hP).blkAt 39 (DoV.cells ⟨6, to, fr, at_, n⟩) (g := g) hg).blkAt 41 #[.int .i64 0, .bool false, .int .i64 0] (g := g + 1) (by simp [hg])
  rw [hF] at hS0 ⊢
  have h8 : (K.regs (K.abs s)).length = 8 := h.r8 _ ok
  have HST := hide (show K.step ⟨6, to, fr, at_, n⟩ (K.abs s) = (⟨0, false, if rgA (K.regs (K.abs s)) to = rgA (K.regs (K.abs s)) fr then 1 else 0⟩, K.abs s) from by
    unfold MemK.step
    rw [if_neg (by rw [hw]; simp)]
    unfold MemK.kstep
    dsimp only
    rw [if_neg (show ¬(6 : Int) = 1 by decide), if_neg (show ¬(6 : Int) = 2 by decide), if_neg (show ¬(6 : Int) = 3 by decide), if_neg (show ¬(6 : Int) = 4 by decide), if_neg (show ¬(6 : Int) = 5 by decide), if_pos rfl])
  obtain ⟨res, hres⟩ : ∃ r, K.step ⟨6, to, fr, at_, n⟩ (K.abs s) = r := ⟨_, rfl⟩
  rw [hres] at HST ⊢
  clear hres
  have HCW := wrong_any ((w.alloc (.cells (DoV.cells ⟨6, to, fr, at_, n⟩) 39)).alloc (.cells #[.int .i64 0, .bool false, .int .i64 0] 41)) ⟨6, to, fr, at_, n⟩
  rw [hw] at HCW
  replace HCW := hide HCW
  obtain ⟨t0, t1⟩ := wrongM_to hw (by show (6 : Int) ≠ 7; decide)
  dsimp only at t0 t1
  obtain ⟨R, rfl⟩ := int_nat t0
  have hR : R < 8 := by omega
  obtain ⟨u0, u1⟩ := wrongM_fr hw (by show (6 : Int) ≠ 1; decide) (by show (6 : Int) ≠ 2; decide)
  dsimp only at u0 u1
  obtain ⟨Q, rfl⟩ := int_nat u0
  have hQ : Q < 8 := by omega
  have HS0 := hide hS0
  unfold DoV.cells at HCW HS0 ⊢
  dsimp only at HCW HS0 ⊢
  obtain ⟨a1, a2, a3, a4⟩ := HS0.out.rules 1 (g := g) (t := 39) rfl
  have e0 := (a1 0).trans (show _ = some (.int .i64 6) from rfl)
  have e1 := (a1 1).trans (show _ = some (.int .i64 _) from rfl)
  have e2 := (a1 2).trans (show _ = some (.int .i64 _) from rfl)
  have e3 := (a1 3).trans (show _ = some (.int .i64 _) from rfl)
  have e4 := (a1 4).trans (show _ = some (.int .i64 _) from rfl)
  have HOK := hide ok
  have HOK1 := hide ok1
  have HH := hide h
  clear hS0 hF hP a1 a4 hw ok ok1 h
  go_enter Try.func43, Try.ntmps43
  go_wp2_with fail
  refine HCW.out.mono ?_
  rintro e w1 ⟨rfl, hb1⟩
  have hS1 := HS0.out.below hb1
  obtain ⟨b1, b2, b3, b4⟩ := hS1.rules 2 (g := g + 1) (t := 41) rfl
  have f0 := (b1 0).trans (show _ = some (.int .i64 0) from rfl)
  have f1 := (b1 1).trans (show _ = some (.bool false) from rfl)
  have f2 := (b1 2).trans (show _ = some (.int .i64 0) from rfl)
  obtain ⟨a1, a2', a3', a4⟩ := hS1.rules 1 (g := g) (t := 39) rfl
  have e0 := (a1 0).trans (show _ = some (.int .i64 6) from rfl)
  have e1 := (a1 1).trans (show _ = some (.int .i64 _) from rfl)
  have e2 := (a1 2).trans (show _ = some (.int .i64 _) from rfl)
  have e3 := (a1 3).trans (show _ = some (.int .i64 _) from rfl)
  have e4 := (a1 4).trans (show _ = some (.int .i64 _) from rfl)
  clear a1 a4 b1 b4
  have HS1 := hide hS1
  clear hb1 HS0 HCW a2 a3
  have hP1 : (K.item s).P w1 := hS1.get 0 rfl
  obtain ⟨i3, i4, _, i2⟩ := K.cells hP1 h8 Q hQ
  obtain ⟨i5, i6, _, _⟩ := K.cells hP1 h8 R hR
  obtain ⟨v, hv⟩ : ∃ v, rgA (K.regs (K.abs s)) (R : Int) = v := ⟨_, rfl⟩
  rw [hv] at i5 i6 HST
  obtain ⟨u, hu⟩ : ∃ v, rgA (K.regs (K.abs s)) (Q : Int) = v := ⟨_, rfl⟩
  rw [hu] at i3 i4 HST
  obtain ⟨bv, mv⟩ := v
  obtain ⟨bu, mu⟩ := u
  dsimp only at i3 i4 i5 i6
  obtain ⟨b, hb⟩ : ∃ b, decide (((bv, mv) : Val) = (bu, mu)) = b := ⟨_, rfl⟩
  have heq : ∀ W, (binOp .eql 107 (.agg #[.bool bv, .int .i64 mv]) (.agg #[.bool bu, .int .i64 mu])).run Try.prog W = .ok (.bool b) W := fun W => by rw [eq_val, hb]
  have hgd := fun W x y => guard_val W x y bv bu mv mu
  have HB := hide hb
  clear hb
  clear hv hu hP1 hS1
  go_wp2_with fail
  go_region_held3 (fun w' => w'.cell? ⟨g, 1, none⟩ = some (.int .i64 (R : Int)) ∧ w'.cell? ⟨g, 2, none⟩ = some (.int .i64 (Q : Int)) ∧ w'.cell? ⟨K.Bm, Q * 2, none⟩ = some (.bool bu) ∧ w'.cell? ⟨K.Bm, Q * 2 + 1, none⟩ = some (.int .i64 mu) ∧ w'.cell? ⟨K.Bm, R * 2, none⟩ = some (.bool bv) ∧ w'.cell? ⟨K.Bm, R * 2 + 1, none⟩ = some (.int .i64 mv)) (go_keep) (fail)
  cases b
  · go_wp2_with fail
    have hr := HST.out
    rw [if_neg (of_decide_eq_false HB.out)] at hr
    subst hr
    have hF := (((HS1.out.drew).set_ 2 (g := g + 1) (t := 41) rfl 0 (.int .i64 0)).set_ 2 (g := g + 1) (t := 41) rfl 1 (.bool false)).set_ 2 (g := g + 1) (t := 41) rfl 2 (.int .i64 0)
    refine bodyPost_ret (v := .agg #[.int .i64 0, .bool false, .int .i64 0]) (by simp [results, Try.results43, go_sem, f0, f1, f2]) rfl ⟨rfl, s, rfl, hF.sub (by simp)⟩
  · go_wp2_with fail
    have hr := HST.out
    rw [if_pos (of_decide_eq_true HB.out)] at hr
    subst hr
    have hF := (((HS1.out.drew).set_ 2 (g := g + 1) (t := 41) rfl 0 (.int .i64 0)).set_ 2 (g := g + 1) (t := 41) rfl 1 (.bool false)).set_ 2 (g := g + 1) (t := 41) rfl 2 (.int .i64 1)
    refine bodyPost_ret (v := .agg #[.int .i64 0, .bool false, .int .i64 1]) (by simp [results, Try.results43, go_sem, f0, f1, f2]) rfl ⟨rfl, s, rfl, hF.sub (by simp)⟩
set_option maxRecDepth 100000 in
set_option maxHeartbeats 16000000 in
theorem kdo_7 (K : MemK) (h : K.Ok) {s : K.St} {w : World} (hP : (K.item s).P w) (ok1 : K.ok1 (K.abs s)) (to fr at_ n : Int) (hw : wrongM ⟨7, to, fr, at_, n⟩ = 0) : K.DoOk s w ⟨7, to, fr, at_, n⟩ := by
  have ok := h.ok_of _ ok1
  unfold MemK.DoOk
  obtain ⟨F, hF⟩ : ∃ F, (K.item s).fp = F := ⟨_, rfl⟩
  obtain ⟨g, hg⟩ : ∃ g, w.heap.size = g := ⟨_, rfl⟩
  have hS0 := ((Sep.start hP).blkAt 39 (DoV.cells ⟨7, to, fr, at_, n⟩) (g := g) hg).blkAt 41 #[.int .i64 0, .bool false, .int .i64 0] (g := g + 1) (by simp [hg])
  rw [hF] at hS0 ⊢
  have h8 : (K.regs (K.abs s)).length = 8 := h.r8 _ ok
  have HST := hide (show K.step ⟨7, to, fr, at_, n⟩ (K.abs s) = (⟨0, (rgA (K.regs (K.abs s)) fr).1, if (rgA (K.regs (K.abs s)) fr).1 = true then K.len (K.abs s) (rgA (K.regs (K.abs s)) fr).2 else (rgA (K.regs (K.abs s)) fr).2⟩, K.abs s) from by
    unfold MemK.step
    rw [if_neg (by rw [hw]; simp)]
    unfold MemK.kstep
    dsimp only
    rw [if_neg (show ¬(7 : Int) = 1 by decide), if_neg (show ¬(7 : Int) = 2 by decide), if_neg (show ¬(7 : Int) = 3 by decide), if_neg (show ¬(7 : Int) = 4 by decide), if_neg (show ¬(7 : Int) = 5 by decide), if_neg (show ¬(7 : Int) = 6 by decide)])
  obtain ⟨res, hres⟩ : ∃ r, K.step ⟨7, to, fr, at_, n⟩ (K.abs s) = r := ⟨_, rfl⟩
  rw [hres] at HST ⊢
  clear hres
  have HCW := wrong_any ((w.alloc (.cells (DoV.cells ⟨7, to, fr, at_, n⟩) 39)).alloc (.cells #[.int .i64 0, .bool false, .int .i64 0] 41)) ⟨7, to, fr, at_, n⟩
  rw [hw] at HCW
  replace HCW := hide HCW
  obtain ⟨u0, u1⟩ := wrongM_fr hw (by show (7 : Int) ≠ 1; decide) (by show (7 : Int) ≠ 2; decide)
  dsimp only at u0 u1
  obtain ⟨Q, rfl⟩ := int_nat u0
  have hQ : Q < 8 := by omega
  have HS0 := hide hS0
  unfold DoV.cells at HCW HS0 ⊢
  dsimp only at HCW HS0 ⊢
  obtain ⟨a1, a2, a3, a4⟩ := HS0.out.rules 1 (g := g) (t := 39) rfl
  have e0 := (a1 0).trans (show _ = some (.int .i64 7) from rfl)
  have e1 := (a1 1).trans (show _ = some (.int .i64 _) from rfl)
  have e2 := (a1 2).trans (show _ = some (.int .i64 _) from rfl)
  have e3 := (a1 3).trans (show _ = some (.int .i64 _) from rfl)
  have e4 := (a1 4).trans (show _ = some (.int .i64 _) from rfl)
  have HOK := hide ok
  have HOK1 := hide ok1
  have HH := hide h
  clear hS0 hF hP a1 a4 hw ok ok1 h
  go_enter Try.func43, Try.ntmps43
  go_wp2_with fail
  refine HCW.out.mono ?_
  rintro e w1 ⟨rfl, hb1⟩
  have hS1 := HS0.out.below hb1
  obtain ⟨b1, b2, b3, b4⟩ := hS1.rules 2 (g := g + 1) (t := 41) rfl
  have f0 := (b1 0).trans (show _ = some (.int .i64 0) from rfl)
  have f1 := (b1 1).trans (show _ = some (.bool false) from rfl)
  have f2 := (b1 2).trans (show _ = some (.int .i64 0) from rfl)
  obtain ⟨a1, a2', a3', a4⟩ := hS1.rules 1 (g := g) (t := 39) rfl
  have e0 := (a1 0).trans (show _ = some (.int .i64 7) from rfl)
  have e1 := (a1 1).trans (show _ = some (.int .i64 _) from rfl)
  have e2 := (a1 2).trans (show _ = some (.int .i64 _) from rfl)
  have e3 := (a1 3).trans (show _ = some (.int .i64 _) from rfl)
  have e4 := (a1 4).trans (show _ = some (.int .i64 _) from rfl)
  clear a1 a4 b1 b4
  have HS1 := hide hS1
  clear hb1 HS0 HCW a2 a3
  have hP1 : (K.item s).P w1 := hS1.get 0 rfl
  obtain ⟨i3, i4, i1, i2⟩ := K.cells hP1 h8 Q hQ
  have hvv := K.vok_rg HH.out HOK.out (Q : Int)
  obtain ⟨v, hv⟩ : ∃ v, rgA (K.regs (K.abs s)) (Q : Int) = v := ⟨_, rfl⟩
  rw [hv] at i3 i4 hvv HST
  have HVV := hide hvv
  clear hv hS1 hP1 hvv
  obtain ⟨bv, mv⟩ := v
  dsimp only at i3 i4
  go_wp2_with fail
  have q1 : g ≠ w1.heap.size := by omega
  have q2 : K.Bm ≠ w1.heap.size := by omega
  go_region_held3 (fun w' => w'.cell? ⟨g, 2, none⟩ = some (.int .i64 (Q : Int)) ∧ w'.cell? ⟨K.Bm, Q * 2, none⟩ = some (.bool bv) ∧ w'.cell? ⟨K.Bm, Q * 2 + 1, none⟩ = some (.int .i64 mv)) (simp (config := { maxDischargeDepth := 8 }) [*, World.cell?_alloc_some]) (fail)
  have hSv := (HS1.out.blkAt 107 #[.bool bv, .int .i64 mv] (g := w1.heap.size) rfl).drew
  obtain ⟨gv, hgv⟩ : ∃ g, w1.heap.size = g := ⟨_, rfl⟩
  obtain ⟨v1, v2, v3, _⟩ := hSv.rules 3 (g := w1.heap.size) (t := 107) rfl
  have v4 := (v1 0).trans (show _ = some (.bool bv) from rfl)
  have v5 := (v1 1).trans (show _ = some (.int .i64 mv) from rfl)
  obtain ⟨b1, b2, b3, b4⟩ := hSv.rules 2 (g := g + 1) (t := 41) rfl
  have f0 := (b1 0).trans (show _ = some (.int .i64 0) from rfl)
  have f1 := (b1 1).trans (show _ = some (.bool false) from rfl)
  have f2 := (b1 2).trans (show _ = some (.int .i64 0) from rfl)
  obtain ⟨a1, a2', a3', a4⟩ := hSv.rules 1 (g := g) (t := 39) rfl
  have e0 := (a1 0).trans (show _ = some (.int .i64 7) from rfl)
  have e1 := (a1 1).trans (show _ = some (.int .i64 _) from rfl)
  have e2 := (a1 2).trans (show _ = some (.int .i64 _) from rfl)
  have e3 := (a1 3).trans (show _ = some (.int .i64 _) from rfl)
  have e4 := (a1 4).trans (show _ = some (.int .i64 _) from rfl)
  clear a1 a4 b1 b4
  obtain ⟨c1, _, c3, c5⟩ := K.cells (hSv.get 0 rfl) h8 Q hQ
  have HSV := hide hSv
  clear hSv v1
  obtain ⟨W, hW⟩ : ∃ W, (w1.alloc (.cells #[.bool bv, .int .i64 mv] 107)).drew = W := ⟨_, rfl⟩
  rw [hW] at HSV v2 v3 v4 v5 b2 b3 f0 f1 f2 e0 e1 e2 e3 e4 c3 c5 ⊢
  clear hW q1 q2 i1 i2 i3 i4 c1
  try rw [hgv] at v4
  try rw [hgv] at v5
  try rw [hgv] at HSV
  try rw [hgv] at v2
  try rw [hgv] at v3
  rw [hgv]
  clear hgv
  by_cases hb : bv = true
  · subst hb
    obtain ⟨i, fs, hi, hfs⟩ := HVV.out rfl
    dsimp only at hi
    subst hi
    have h4 := HH.out.f4 _ _ _ HOK.out hfs
    have h1k := HH.out.lim _ _ _ HOK.out hfs
    have CP := HH.out.cL s W.drew i fs (HSV.out.drew.get 0 rfl) HOK.out hfs
    have hme := HH.out.mL s W.drew (HSV.out.drew.get 0 rfl)
    have hent := HH.out.eL
    obtain ⟨fL, hfL⟩ : ∃ x, K.fL = x := ⟨_, rfl⟩
    obtain ⟨rL, hrL⟩ : ∃ x, K.rL s = x := ⟨_, rfl⟩
    obtain ⟨q, hq⟩ : ∃ x, fs.length = x := ⟨_, rfl⟩
    simp only [hfL, hrL, hq] at CP hme hent
    replace CP := hide CP
    have HQ := hide (show K.len (K.abs s) (i : Int) = (q : Int) by unfold MemK.len; rw [show ((i : Int)).toNat = i from by omega, hfs, ← hq]; rfl)
    rw [hq] at h4
    clear hfL hrL hq hfs
    go_wp2_with fail
    go_region_law (first
      | (try go_simp
         (with_reducible refine CP.out.mono ?_)
         rintro e w4 ⟨rfl, rfl⟩))
    all_goals
      have hS4 : Sep F w (W.setCell ⟨gv, 1, none⟩ (.int .i64 (q : Int))).drew _ := HSV.out.drew.set_ 3 (g := gv) (t := 107) rfl 1 (.int .i64 (q : Int))
      obtain ⟨b1, b2, b3, b4⟩ := hS4.rules 2 (g := g + 1) (t := 41) rfl
      have f0 := (b1 0).trans (show _ = some (.int .i64 0) from rfl)
      have f1 := (b1 1).trans (show _ = some (.bool false) from rfl)
      have f2 := (b1 2).trans (show _ = some (.int .i64 0) from rfl)
      obtain ⟨v1, v2, v3, _⟩ := hS4.rules 3 (g := gv) (t := 107) rfl
      have v4 := (v1 0).trans (show _ = some (.bool true) from rfl)
      have v5 := (v1 1).trans (show _ = some (.int .i64 (q : Int)) from rfl)
      have HS4 := hide hS4
      clear b1 b4 v1 hS4 CP hme
      obtain ⟨W4, hW4⟩ : ∃ W4, (W.setCell ⟨gv, 1, none⟩ (.int .i64 (q : Int))).drew = W4 := ⟨_, rfl⟩
      rw [hW4] at HS4 f0 f1 f2 b2 b3 v2 v3 v4 v5 ⊢
      go_wp2_with fail
      have hr := HST.out
      try dsimp only at hr
      rw [if_pos (by trivial), HQ.out] at hr
      subst hr
      have hF := (((HS4.out).set_ 2 (g := g + 1) (t := 41) rfl 0 (.int .i64 0)).set_ 2 (g := g + 1) (t := 41) rfl 1 (.bool true)).set_ 2 (g := g + 1) (t := 41) rfl 2 (.int .i64 (q : Int))
      refine bodyPost_ret (v := .agg #[.int .i64 0, .bool true, .int .i64 (q : Int)]) (by simp [results, Try.results43, go_sem, f0, f1, f2]) rfl ⟨rfl, s, rfl, hF.sub (by simp)⟩
  · have hb2 : bv = false := by cases bv <;> simp_all
    subst hb2
    go_wp2_with fail
    have hr := HST.out
    try dsimp only at hr
    rw [if_neg (by simp)] at hr
    subst hr
    have hF := (((HSV.out).set_ 2 (g := g + 1) (t := 41) rfl 0 (.int .i64 0)).set_ 2 (g := g + 1) (t := 41) rfl 1 (.bool false)).set_ 2 (g := g + 1) (t := 41) rfl 2 (.int .i64 mv)
    refine bodyPost_ret (v := .agg #[.int .i64 0, .bool false, .int .i64 mv]) (by simp [results, Try.results43, go_sem, f0, f1, f2]) rfl ⟨rfl, s, rfl, hF.sub (by simp)⟩
theorem kdo_any (K : MemK) (h : K.Ok) {s : K.St} {w : World} (hP : (K.item s).P w) (ok1 : K.ok1 (K.abs s)) (d : DoV) : K.DoOk s w d := by
  by_cases hw : wrongM d = 0
  · obtain ⟨k1, k2⟩ := wrongM_rng hw
    obtain ⟨k, to, fr, at_, n⟩ := d
    dsimp only at k1 k2
    obtain rfl | rfl | rfl | rfl | rfl | rfl | rfl : k = 1 ∨ k = 2 ∨ k = 3 ∨ k = 4 ∨ k = 5 ∨ k = 6 ∨ k = 7 := by omega
    · exact kdo_1 K h hP ok1 to fr at_ n hw
    · exact kdo_2 K h hP ok1 to fr at_ n hw
    · exact kdo_3 K h hP ok1 to fr at_ n hw
    · exact kdo_4 K h hP ok1 to fr at_ n hw
    · exact kdo_5 K h hP ok1 to fr at_ n hw
    · exact kdo_6 K h hP ok1 to fr at_ n hw
    · exact kdo_7 K h hP ok1 to fr at_ n hw
  · exact kdo_bad K hP d hw
end Go.Proofs.Ytjphckfbbiehdaa
