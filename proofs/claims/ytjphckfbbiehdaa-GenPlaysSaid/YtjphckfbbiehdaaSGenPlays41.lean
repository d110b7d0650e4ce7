/- The reference of a memory with young and old objects: a step where nothing is wrong. -/
import Derived.Test.YtjphckfbbiehdaaSGenPlays40
import Derived.BigQuiet
set_option linter.unusedSimpArgs false
set_option linter.unusedVariables false
namespace Go.Proofs.Ytjphckfbbiehdaa
open Go.RowKit
set_option maxRecDepth 100000 in
set_option maxHeartbeats 64000000 in
theorem gStep_other {Ba Bm : Nat} {t : GaT} {w : World} (hP : (gaI Ba Bm t).P w) (ok : GaOk t) (d : DoV) (room : Nat) (hd8 : d.k ≠ 8) (hd9 : d.k ≠ 9) (hd1 : d.k ≠ 1) (hd4 : d.k ≠ 4) (hw : rWrong d (absR t.s) = 0) : GStepOk Ba Bm t w d room := by
  unfold GStepOk
  obtain ⟨gd, hgd⟩ : ∃ g, w.heap.size = g := ⟨_, rfl⟩
  have hS0 := ((Sep.start hP).blkAt 39 d.cells hgd).blkAt 41 #[.int .i64 0, .bool false, .int .i64 0] (g := gd + 1) (by simp [hgd])
  have CW := rwrong_any (gI_rm hS0.drew (k := 0) rfl) ok.ok d
  rw [hw] at CW
  obtain ⟨k0, k5, -⟩ := gI_cells hS0 (k := 0) rfl
  obtain ⟨x1, x2, x3, -⟩ := hS0.rules 1 (g := gd) (t := 39) rfl
  have hm : ¬ wrongM d ≠ 0 := fun h => by unfold rWrong at hw; rw [if_pos h] at hw; exact h hw
  have hs := stepM_rw d t.a.σ
  rw [if_neg (show ¬ rWrong d t.a.σ ≠ 0 from fun h => h hw)] at hs
  have hps : t.a.σ = absR t.s := rfl
  obtain ⟨⟨⟨oc, orf, on⟩, σ'⟩, hsk⟩ : ∃ p, stepK d (absR t.s) = p := ⟨_, rfl⟩
  have hst : grStep room d t.a = (⟨oc, orf, on⟩, ⟨σ', t.old, t.s.gone, t.mks⟩) := by
    rw [hps, hsk] at hs
    have hrem : t.a.rem d = t.a.mks := by unfold GrA.rem; rw [if_neg (fun h => hd4 h.1)]
    unfold grStep
    rw [if_neg hd8, if_neg hd9, if_neg hm, if_neg hd1, hps, hs, hrem]
    rfl
  rw [hst]
  obtain ⟨dk, dto, dfr, dat, dn⟩ := d
  dsimp only at hd8 hd9 hd1 hd4
  have y8 : (dk == 8) = false := by simp [hd8]
  have y9 : (dk == 9) = false := by simp [hd9]
  have yx : (dk == 1) = false := by simp [hd1]
  have y4 : (dk == 4) = false := by simp [hd4]
  have HGD := hide (show ∀ g : List Bool, goneD ⟨dk, dto, dfr, dat, dn⟩ g = g from fun g => if_neg hd1)
  have HSTt := hide hsk
  unfold DoV.cells at x1 x2 x3 CW hS0 k0 k5 ⊢
  dsimp only at x1 x2 x3 CW hS0 k0 k5 ⊢
  have f0 := (x1 0).trans (show _ = some (.int .i64 dk) from rfl)
  have f1 := (x1 1).trans (show _ = some (.int .i64 dto) from rfl)
  have f2 := (x1 2).trans (show _ = some (.int .i64 dfr) from rfl)
  have f3 := (x1 3).trans (show _ = some (.int .i64 dat) from rfl)
  have f4 := (x1 4).trans (show _ = some (.int .i64 dn) from rfl)
  have HCW := hide CW
  have HS0 := hide hS0
  have HW0t := hide hw
  have HOKt := hide ok.ok
  have HGOK := hide ok
  unfold OutV.val
  dsimp only
  clear hP hS0 ok CW x1 hst hw hs hm hps hd8 hd9 hd1 hd4 hsk
  go_enter Try.func93, Try.ntmps93
  go_wp2_with fail
  go_region_held3 (fun w' => w'.cell? ⟨Ba, 0, none⟩ = some (.pointer (some ⟨Bm, 0, none⟩)) ∧ w'.cell? ⟨gd, 0, none⟩ = some (.int .i64 dk) ∧ w'.cell? ⟨gd, 1, none⟩ = some (.int .i64 dto) ∧ w'.cell? ⟨gd, 2, none⟩ = some (.int .i64 dfr) ∧ w'.cell? ⟨gd, 3, none⟩ = some (.int .i64 dat) ∧ w'.cell? ⟨gd, 4, none⟩ = some (.int .i64 dn)) (first | go_keep | (simp only [World.cell?_drew]; assumption) | assumption)
    ((go_at_call 78; (with_reducible refine HCW.out.mono ?_); rintro e w2 ⟨rfl, hb2⟩; have hS2 := HS0.out.drew.below hb2; obtain ⟨q0, q5, -⟩ := gI_cells hS2 (k := 0) rfl; obtain ⟨qa, -, qc, -⟩ := hS2.rules 1 (g := gd) (t := 39) rfl; have q6 := (qa 0).trans (show _ = some (.int .i64 dk) from rfl); have q7 := (qa 1).trans (show _ = some (.int .i64 dto) from rfl); have q8 := (qa 2).trans (show _ = some (.int .i64 dfr) from rfl); have q9 := (qa 3).trans (show _ = some (.int .i64 dat) from rfl); have qx := (qa 4).trans (show _ = some (.int .i64 dn) from rfl); have HS2 := hide hS2; clear hS2 hb2 qa))
  all_goals
    go_wp2_with fail
    obtain ⟨gx, hgx⟩ : ∃ x, w2.heap.size = x := ⟨_, rfl⟩
    have nx1 : Ba ≠ gx := by have h1 := (gI_cells HS2.out (k := 0) rfl).2.1; omega
    have nx2 : gx ≠ Ba := fun e => nx1 e.symm
    have nx3 : gd ≠ gx := by have h1 := HS2.out.hi 1 rfl gd rfl; omega
    have nx4 : gx ≠ gd := fun e => nx3 e.symm
    have CD1 := hide (gaDoI HS2.out.drew HOKt.out ⟨dk, dto, dfr, dat, dn⟩ HW0t.out)
    have CD2 := hide (gaDoI ((HS2.out.blkAt 41 #[.int .i64 0, .bool false, .int .i64 0] hgx).drew) HOKt.out ⟨dk, dto, dfr, dat, dn⟩ HW0t.out)
    rw [HSTt.out] at CD1 CD2
    unfold DoV.cells OutV.val at CD1 CD2
    dsimp only at CD1 CD2
    go_cut [10] from 103 to 109 (fun s7 wx => ∃ (b : Nat) (s' : RMem), s7 = .pointer (some ⟨b, 0, none⟩) ∧ Hid (absR s' = σ') ∧ Hid (s'.gone.length = s'.obs.length) ∧ Hid (s'.gone = t.s.gone) ∧ Sep (gaI Ba Bm t).fp w wx [gaI Ba Bm { t with s := s' }, blkI gd 39 #[.int .i64 dk, .int .i64 dto, .int .i64 dfr, .int .i64 dat, .int .i64 dn], blkI (gd + 1) 41 #[.int .i64 0, .bool false, .int .i64 0], blkI b 41 #[.int .i64 oc, .bool orf, .int .i64 on]])
    case first =>
      go_region_held3 (fun w' => w'.cell? ⟨Ba, 0, none⟩ = some (.pointer (some ⟨Bm, 0, none⟩)) ∧ w'.cell? ⟨gd, 0, none⟩ = some (.int .i64 dk) ∧ w'.cell? ⟨gd, 1, none⟩ = some (.int .i64 dto) ∧ w'.cell? ⟨gd, 2, none⟩ = some (.int .i64 dfr) ∧ w'.cell? ⟨gd, 3, none⟩ = some (.int .i64 dat) ∧ w'.cell? ⟨gd, 4, none⟩ = some (.int .i64 dn)) (first | go_keep | (simp only [World.cell?_drew]; assumption) | (simp (config := { maxDischargeDepth := 8 }) [*, World.cell?_alloc_some]; done) | assumption)
        (((go_at_call 81); first
          | ((with_reducible refine CD1.out.mono ?_); rintro e w3 ⟨s', rfl, hab, hgn, hgn2, hS3⟩; obtain ⟨m0, m5, -⟩ := gI_cells hS3 (k := 0) rfl; obtain ⟨ma, -, mc, -⟩ := hS3.rules 1 (g := gd) (t := 39) rfl; have m6 := (ma 0).trans (show _ = some (.int .i64 dk) from rfl); have m7 := (ma 1).trans (show _ = some (.int .i64 dto) from rfl); have m8 := (ma 2).trans (show _ = some (.int .i64 dfr) from rfl); have m9 := (ma 3).trans (show _ = some (.int .i64 dat) from rfl); have mx := (ma 4).trans (show _ = some (.int .i64 dn) from rfl); have HS3 := hide (hS3.blkAt 41 #[.int .i64 oc, .bool orf, .int .i64 on] (g := w3.heap.size) rfl); have HAB := hide hab; have HGN := hide hgn; have HGN2 := hide hgn2; have HKK := hide True.intro; clear hab hgn hgn2 hS3 ma)
          | ((with_reducible refine CD2.out.mono ?_); rintro e w3 ⟨s', rfl, hab, hgn, hgn2, hS3⟩; obtain ⟨m0, m5, -⟩ := gI_cells hS3 (k := 0) rfl; obtain ⟨ma, -, mc, -⟩ := hS3.rules 1 (g := gd) (t := 39) rfl; have m6 := (ma 0).trans (show _ = some (.int .i64 dk) from rfl); have m7 := (ma 1).trans (show _ = some (.int .i64 dto) from rfl); have m8 := (ma 2).trans (show _ = some (.int .i64 dfr) from rfl); have m9 := (ma 3).trans (show _ = some (.int .i64 dat) from rfl); have mx := (ma 4).trans (show _ = some (.int .i64 dn) from rfl); obtain ⟨o1, o2, o3, -⟩ := hS3.rules 3 (g := gx) (t := 41) rfl; have HS3 := hide hS3; have HAB := hide hab; have HGN := hide hgn; have HGN2 := hide hgn2; clear hab hgn hgn2 hS3 ma)))
      all_goals
        go_wp2_with fail
        have HGN3 := hide (show s'.gone = t.s.gone from HGN2.out.trans (HGD.out t.s.gone))
        go_meet
        case rel => first
          | (have hk := HKK.out
             exact ⟨w3.heap.size, s', rfl, HAB, HGN, HGN3, HS3.out⟩)
          | exact ⟨gx, s', rfl, HAB, HGN, HGN3, ((HS3.out.set_ 3 (g := gx) (t := 41) rfl 0 (.int .i64 oc)).set_ 3 (g := gx) (t := 41) rfl 1 (.bool orf)).set_ 3 (g := gx) (t := 41) rfl 2 (.int .i64 on)⟩
    case rest =>
      obtain ⟨b, s', rfl, HAB, HGN, HGN3, hS4⟩ := hcut
      clear CD1 CD2
      have HS4 := hide hS4
      obtain ⟨y1, y2, y3, -⟩ := HS4.out.rules 2 (g := gd + 1) (t := 41) rfl
      obtain ⟨v1, v2, v3, -⟩ := HS4.out.rules 3 (g := b) (t := 41) rfl
      have v5 := (v1 0).trans (show _ = some (.int .i64 oc) from rfl)
      have v6 := (v1 1).trans (show _ = some (.bool orf) from rfl)
      have v7 := (v1 2).trans (show _ = some (.int .i64 on) from rfl)
      obtain ⟨l1, -, l3, -⟩ := HS4.out.rules 1 (g := gd) (t := 39) rfl
      have l5 := (l1 0).trans (show _ = some (.int .i64 dk) from rfl)
      clear l1 v1
      have HEQ := hide (show ({ t with s := s' } : GaT).a = ⟨σ', t.old, t.s.gone, t.mks⟩ from by rw [← HAB.out, ← HGN3.out]; rfl)
      clear hS4
      go_wp2_with fail
      have hF := ((HS4.out.set_ 2 (g := gd + 1) (t := 41) rfl 0 (.int .i64 oc)).set_ 2 (g := gd + 1) (t := 41) rfl 1 (.bool orf)).set_ 2 (g := gd + 1) (t := 41) rfl 2 (.int .i64 on)
      obtain ⟨z1, -, -, -⟩ := hF.rules 2 (g := gd + 1) (t := 41) rfl
      refine bodyPost_ret (v := .agg #[.int .i64 oc, .bool orf, .int .i64 on]) (by simp [results, Try.results93, go_sem, z1]) rfl ⟨rfl, _, HEQ.out, HGN.out, hF.sub (List.sublist_append_left [_] [_, _, _])⟩
set_option maxRecDepth 100000 in
set_option maxHeartbeats 64000000 in
theorem gStep_put {Ba Bm : Nat} {t : GaT} {w : World} (hP : (gaI Ba Bm t).P w) (ok : GaOk t) (d : DoV) (room : Nat) (hd4 : d.k = 4) (hw : rWrong d (absR t.s) = 0) : GStepOk Ba Bm t w d room := by
  unfold GStepOk
  obtain ⟨gd, hgd⟩ : ∃ g, w.heap.size = g := ⟨_, rfl⟩
  have hS0 := ((Sep.start hP).blkAt 39 d.cells hgd).blkAt 41 #[.int .i64 0, .bool false, .int .i64 0] (g := gd + 1) (by simp [hgd])
  have CW := rwrong_any (gI_rm hS0.drew (k := 0) rfl) ok.ok d
  rw [hw] at CW
  obtain ⟨k0, k5, -⟩ := gI_cells hS0 (k := 0) rfl
  obtain ⟨x1, x2, x3, -⟩ := hS0.rules 1 (g := gd) (t := 39) rfl
  have hm : ¬ wrongM d ≠ 0 := fun h => by unfold rWrong at hw; rw [if_pos h] at hw; exact h hw
  have hs := stepM_rw d t.a.σ
  rw [if_neg (show ¬ rWrong d t.a.σ ≠ 0 from fun h => h hw)] at hs
  have hps : t.a.σ = absR t.s := rfl
  obtain ⟨⟨⟨oc, orf, on⟩, σ'⟩, hsk⟩ : ∃ p, stepK d (absR t.s) = p := ⟨_, rfl⟩
  have hst : grStep room d t.a = (⟨oc, orf, on⟩, ⟨σ', t.old, t.s.gone, t.a.rem d⟩) := by
    rw [hps, hsk] at hs
    unfold grStep
    rw [if_neg (by omega), if_neg (by omega), if_neg hm, if_neg (by omega), hps, hs]
    rfl
  rw [hst]
  obtain ⟨dk, dto, dfr, dat, dn⟩ := d
  dsimp only at hd4
  subst hd4
  have hw1 : wrongM ⟨4, dto, dfr, dat, dn⟩ = 0 := by
    rcases Int.decEq (wrongM ⟨4, dto, dfr, dat, dn⟩) 0 with e | e
    · exact absurd e hm
    · exact e
  obtain ⟨R, rfl, hR⟩ := to_of hw1 (by decide)
  obtain ⟨Q, rfl, hQ⟩ := fr_of hw1 (by decide) (by decide)
  have hz : fErr (absR t.s).objs (rgA t.s.regs R) dat = 0 := by
    unfold rWrong at hw
    rw [if_neg hm, if_pos rfl] at hw
    exact hw
  obtain ⟨i, kk, e1, rfl, hi, -, -, -, -⟩ := rferr_facts (gI_rm hS0 (k := 0) rfl) ok.ok R hz
  obtain ⟨⟨vb, vn⟩, hv⟩ : ∃ v, rgA t.s.regs (Q : Int) = v := ⟨_, rfl⟩
  have hvj : vb = true → ∃ j : Nat, vn = (j : Int) ∧ j < t.s.obs.length := fun hb => by
    have hvk := valsOk_getD ok.ok.m.vr Q
    rw [show (absR t.s).regs.getD Q (false, 0) = (vb, vn) from by rw [← hv]; unfold rgA; rw [Int.toNat_natCast]; rfl] at hvk
    have h2 : (absR t.s).objs.length = t.s.obs.length := List.length_map ..
    obtain ⟨h3, h4⟩ := hvk hb
    obtain ⟨j, hj⟩ := int_nat h3
    exact ⟨j, hj, by dsimp only at h4 hj; omega⟩
  have hrem : t.a.rem ⟨4, (R : Int), (Q : Int), (kk : Int), dn⟩ = if (t.a.od i && vb && !t.a.od vn.toNat) = true then insF (i, kk) t.mks else t.mks := by
    unfold GrA.rem
    have q1 : rgA t.a.σ.regs (R : Int) = (true, (i : Int)) := e1
    have q2 : rgA t.a.σ.regs (Q : Int) = (vb, vn) := hv
    have q3 : fErr t.a.σ.objs (rgA t.a.σ.regs (R : Int)) (kk : Int) = 0 := hz
    dsimp only
    rw [q1] at q3 ⊢
    rw [q2]
    dsimp only
    rw [Int.toNat_natCast, Int.toNat_natCast]
    by_cases hc : (t.a.od i && vb && !t.a.od vn.toNat) = true
    · rw [if_pos ⟨rfl, q3, hc⟩, if_pos hc]
      rfl
    · rw [if_neg (fun h => hc h.2.2), if_neg hc]
      rfl
  obtain ⟨M', hM'⟩ : ∃ m, t.a.rem ⟨4, (R : Int), (Q : Int), (kk : Int), dn⟩ = m := ⟨_, rfl⟩
  rw [hM'] at hrem ⊢
  have HRM := hide hrem
  have hlen : t.s.obs.length = t.old.length := by rw [← ok.ok.k, ok.hl]
  have h8 : t.s.regs.length = 8 := ok.ok.m.r8
  have HCF := hide (fun (X : World) (L : List Item) (hX : Sep (gaI Ba Bm t).fp w X (gaI Ba Bm t :: L)) => (show (X.cell? ⟨Bm, 0, none⟩ = some (.slice (some ⟨t.s.gr, 0, none⟩) 8 t.s.cR) ∧ X.cell? ⟨t.s.gr, R * 2, none⟩ = some (.bool true) ∧ X.cell? ⟨t.s.gr, R * 2 + 1, none⟩ = some (.int .i64 (i : Int)) ∧ X.cell? ⟨t.s.gr, Q * 2, none⟩ = some (.bool vb) ∧ X.cell? ⟨t.s.gr, Q * 2 + 1, none⟩ = some (.int .i64 vn)) ∧ t.s.gr < X.heap.size ∧ X.cell? ⟨Ba, 0, none⟩ = some (.pointer (some ⟨Bm, 0, none⟩)) ∧ Ba < X.heap.size ∧ Bm < X.heap.size ∧ X.cell? ⟨Ba, 1, none⟩ = some (.slice t.Ao t.old.length t.oc) ∧ (∀ z, z < t.s.obs.length → ∃ go, t.Ao = some ⟨go, 0, none⟩ ∧ X.cell? ⟨go, z, none⟩ = some (.bool (t.a.od z)) ∧ go < X.heap.size) from by
    obtain ⟨c0, c1, -, -, c4, c5, c6, -⟩ := ga_cells (hX.get 0 rfl)
    obtain ⟨m0, -, -, -, -⟩ := rm_mem c5
    rw [h8] at m0
    obtain ⟨a0, a1, -, -, a4⟩ := rm_reg c5 h8 R hR
    obtain ⟨b0, b1, -, -, -⟩ := rm_reg c5 h8 Q hQ
    rw [e1] at a0 a1
    rw [hv] at b0 b1
    refine ⟨⟨m0, a0, a1, b0, b1⟩, a4, c0, c4, c6, c1, fun z hz => ?_⟩
    obtain ⟨go, o1, o2, -, o4⟩ := ga_old (hX.get 0 rfl) (z := z) (by omega)
    exact ⟨go, o1, o2, o4⟩))
  have HVJ := hide hvj
  have HI := hide hi
  have HLN := hide hlen
  have HGD := hide (show ∀ g : List Bool, goneD ⟨4, (R : Int), (Q : Int), (kk : Int), dn⟩ g = g from fun g => if_neg (show ¬ (4 : Int) = 1 by decide))
  have r0 : (0 : Int) ≤ (R : Int) := by omega
  have r1 : (R : Int) < 8 := by omega
  have r2 : (0 : Int) ≤ (Q : Int) := by omega
  have r3 : (Q : Int) < 8 := by omega
  have HSTt := hide hsk
  unfold DoV.cells at x1 x2 x3 CW hS0 k0 k5 ⊢
  dsimp only at x1 x2 x3 CW hS0 k0 k5 ⊢
  have f0 := (x1 0).trans (show _ = some (.int .i64 4) from rfl)
  have f1 := (x1 1).trans (show _ = some (.int .i64 (R : Int)) from rfl)
  have f2 := (x1 2).trans (show _ = some (.int .i64 (Q : Int)) from rfl)
  have f3 := (x1 3).trans (show _ = some (.int .i64 (kk : Int)) from rfl)
  have f4 := (x1 4).trans (show _ = some (.int .i64 dn) from rfl)
  have HCW := hide CW
  have HS0 := hide hS0
  have HW0t := hide hw
  have HOKt := hide ok.ok
  have HGOK := hide ok
  unfold OutV.val
  dsimp only
  clear hP hS0 ok CW x1 hst hw hs hm hps hsk hM' hrem hvj hlen h8 hi hv hz e1 hw1
  go_enter Try.func93, Try.ntmps93
  go_wp2_with fail
  go_region_held3 (fun w' => w'.cell? ⟨Ba, 0, none⟩ = some (.pointer (some ⟨Bm, 0, none⟩)) ∧ w'.cell? ⟨gd, 0, none⟩ = some (.int .i64 4) ∧ w'.cell? ⟨gd, 1, none⟩ = some (.int .i64 (R : Int)) ∧ w'.cell? ⟨gd, 2, none⟩ = some (.int .i64 (Q : Int)) ∧ w'.cell? ⟨gd, 3, none⟩ = some (.int .i64 (kk : Int)) ∧ w'.cell? ⟨gd, 4, none⟩ = some (.int .i64 dn)) (first | go_keep | (simp only [World.cell?_drew]; assumption) | assumption)
    ((go_at_call 78; (with_reducible refine HCW.out.mono ?_); rintro e w2 ⟨rfl, hb2⟩; have hS2 := HS0.out.drew.below hb2; obtain ⟨q0, q5, -⟩ := gI_cells hS2 (k := 0) rfl; obtain ⟨qa, -, qc, -⟩ := hS2.rules 1 (g := gd) (t := 39) rfl; have q6 := (qa 0).trans (show _ = some (.int .i64 4) from rfl); have q7 := (qa 1).trans (show _ = some (.int .i64 (R : Int)) from rfl); have q8 := (qa 2).trans (show _ = some (.int .i64 (Q : Int)) from rfl); have q9 := (qa 3).trans (show _ = some (.int .i64 (kk : Int)) from rfl); have qx := (qa 4).trans (show _ = some (.int .i64 dn) from rfl); have HS2 := hide hS2; clear hS2 hb2 qa))
  all_goals
    go_upto_if 51 with fail
    obtain ⟨⟨g0, g1, g2, g3, g4⟩, g5, -, g7, g8, g9, gA⟩ := HCF.out _ _ HS2.out
    go_cut [] from 52 to 103 (fun wx => ∃ (A : Option Addr) (c : Nat), Sep (gaI Ba Bm t).fp w wx [gaI Ba Bm { t with Am := A, cm := c, mks := M' }, blkI gd 39 #[.int .i64 4, .int .i64 (R : Int), .int .i64 (Q : Int), .int .i64 (kk : Int), .int .i64 dn], blkI (gd + 1) 41 #[.int .i64 0, .bool false, .int .i64 0]])
    case first =>
      go_upto_region 16 with fail
      go_cut [8] from 52 to 64 (fun s8 wx => s8 = .int .i64 (i : Int) ∧ Sep (gaI Ba Bm t).fp w wx [gaI Ba Bm t, blkI gd 39 #[.int .i64 4, .int .i64 (R : Int), .int .i64 (Q : Int), .int .i64 (kk : Int), .int .i64 dn], blkI (gd + 1) 41 #[.int .i64 0, .bool false, .int .i64 0]])
      case first =>
        go_quiet (fail)
        go_wp2_with fail
        go_meet
        case rel => exact ⟨rfl, HS2.out.drewN _⟩
      case rest =>
        obtain ⟨rfl, hS3⟩ := hcut
        have HS3 := hide hS3
        clear g0 g1 g2 g3 g4 g5 g7 g8 g9 gA q0 q5 q6 q7 q8 q9 qx
        obtain ⟨⟨g0, g1, g2, g3, g4⟩, g5, g6, g7, g8, g9, gA⟩ := HCF.out _ _ hS3
        obtain ⟨pa, -, pc, -⟩ := hS3.rules 1 (g := gd) (t := 39) rfl; have p6 := (pa 0).trans (show _ = some (.int .i64 4) from rfl); have p7 := (pa 1).trans (show _ = some (.int .i64 (R : Int)) from rfl); have p8 := (pa 2).trans (show _ = some (.int .i64 (Q : Int)) from rfl); have p9 := (pa 3).trans (show _ = some (.int .i64 (kk : Int)) from rfl); have px := (pa 4).trans (show _ = some (.int .i64 dn) from rfl)
        clear hS3 pa
        go_upto_region 17 with fail
        go_cut [9] from 64 to 75 (fun s9 wx => ∃ b : Nat, s9 = .pointer (some ⟨b, 0, none⟩) ∧ Sep (gaI Ba Bm t).fp w wx [gaI Ba Bm t, blkI gd 39 #[.int .i64 4, .int .i64 (R : Int), .int .i64 (Q : Int), .int .i64 (kk : Int), .int .i64 dn], blkI (gd + 1) 41 #[.int .i64 0, .bool false, .int .i64 0], blkI b 107 #[.bool vb, .int .i64 vn]])
        case first =>
          go_region_held3 (fun w' => w'.cell? ⟨Ba, 0, none⟩ = some (.pointer (some ⟨Bm, 0, none⟩)) ∧ w'.cell? ⟨gd, 0, none⟩ = some (.int .i64 4) ∧ w'.cell? ⟨gd, 1, none⟩ = some (.int .i64 (R : Int)) ∧ w'.cell? ⟨gd, 2, none⟩ = some (.int .i64 (Q : Int)) ∧ w'.cell? ⟨gd, 3, none⟩ = some (.int .i64 (kk : Int)) ∧ w'.cell? ⟨gd, 4, none⟩ = some (.int .i64 dn) ∧ w'.cell? ⟨Bm, 0, none⟩ = some (.slice (some ⟨t.s.gr, 0, none⟩) 8 t.s.cR) ∧ w'.cell? ⟨t.s.gr, Q * 2, none⟩ = some (.bool vb) ∧ w'.cell? ⟨t.s.gr, Q * 2 + 1, none⟩ = some (.int .i64 vn)) (first | go_keep | (simp only [World.cell?_drew]; assumption) | assumption)
            (fail)
          all_goals
            go_wp2_with fail
            go_meet
            case rel => first
              | exact ⟨_, rfl, HS3.out.drew.blkAt 107 #[.bool vb, .int .i64 vn] rfl⟩
              | exact ⟨_, rfl, (HS3.out.blkAt 107 #[.bool vb, .int .i64 vn] rfl).drew⟩
        case rest =>
          obtain ⟨bv, rfl, hS5⟩ := hcut
          have HS5 := hide hS5
          clear g0 g1 g2 g3 g4 g5 g6 g7 g8 g9 gA p6 p7 p8 p9 px pc HS3 HS2 HS0
          obtain ⟨-, g5, g6, g7, g8, g9, gA⟩ := HCF.out _ _ hS5
          obtain ⟨pa, -, pc, -⟩ := hS5.rules 1 (g := gd) (t := 39) rfl; have p6 := (pa 0).trans (show _ = some (.int .i64 4) from rfl); have p7 := (pa 1).trans (show _ = some (.int .i64 (R : Int)) from rfl); have p8 := (pa 2).trans (show _ = some (.int .i64 (Q : Int)) from rfl); have p9 := (pa 3).trans (show _ = some (.int .i64 (kk : Int)) from rfl); have px := (pa 4).trans (show _ = some (.int .i64 dn) from rfl)
          obtain ⟨y1, -, y3, -⟩ := hS5.rules 3 (g := bv) (t := 107) rfl
          have y5 := (y1 0).trans (show _ = some (.bool vb) from rfl)
          have y6 := (y1 1).trans (show _ = some (.int .i64 vn) from rfl)
          have hrm := HRM.out
          obtain ⟨go, o1, o2, o3⟩ := gA i HI.out
          have hlen := HLN.out
          have hii := HI.out
          have i0 : (0 : Int) ≤ (i : Int) := by omega
          have i1 : (i : Int) < (t.old.length : Int) := by omega
          rw [o1] at g9
          cases hb1 : t.a.od i with
          | false =>
            rw [hb1] at o2 hrm
            have HM' := hide (show t.mks = M' from by rw [hrm]; simp)
            clear hS5 pa y1 hrm gA hb1
            go_upto_region 18 with fail
            go_quiet (fail)
            go_wp2_with fail
            go_meet
            case rel => exact ⟨t.Am, t.cm, by rw [← HM'.out]; exact (HS5.out.drewN _).sub (List.sublist_append_left [_, _, _] [_])⟩
          | true =>
            rw [hb1] at o2 hrm
            cases vb with
            | false =>
              have HM' := hide (show t.mks = M' from by rw [hrm]; simp)
              clear hS5 pa y1 hrm gA hb1
              go_upto_region 18 with fail
              go_quiet (fail)
              go_wp2_with fail
              go_meet
              case rel => exact ⟨t.Am, t.cm, by rw [← HM'.out]; exact (HS5.out.drewN _).sub (List.sublist_append_left [_, _, _] [_])⟩
            | true =>
              obtain ⟨j, rfl, hj⟩ := HVJ.out rfl
              rw [Int.toNat_natCast] at hrm
              obtain ⟨go2, o4, o5, o6⟩ := gA j hj
              obtain rfl : go = go2 := by rw [o1] at o4; injection o4 with h; injection h
              have j0 : (0 : Int) ≤ (j : Int) := by omega
              have j1 : (j : Int) < (t.old.length : Int) := by omega
              cases hb2 : t.a.od j with
              | true =>
                rw [hb2] at o5 hrm
                have HM' := hide (show t.mks = M' from by rw [hrm]; simp)
                clear hS5 pa y1 hrm gA hb1 hb2 o4
                go_upto_region 18 with fail
                go_quiet (fail)
                go_wp2_with fail
                go_meet
                case rel => exact ⟨t.Am, t.cm, by rw [← HM'.out]; exact (HS5.out.drewN _).sub (List.sublist_append_left [_, _, _] [_])⟩
              | false =>
                rw [hb2] at o5 hrm
                have HM' := hide (show insF (i, kk) t.mks = M' from by rw [hrm]; simp)
                have CRM := hide (fun k => gaRemI (HS5.out.drewN k) HGOK.out (i, kk))
                dsimp only at CRM
                clear hS5 pa y1 hrm gA hb1 hb2 o4
                go_upto_region 18 with fail
                go_quiet (fail)
                go_wp2_with fail
                refine (CRM.out _).mono ?_
                rintro e w6 ⟨⟨u, rfl⟩, A6, c6, hS6⟩
                rw [HM'.out] at hS6
                have HS6 := hide hS6
                clear hS6 CRM
                go_wp2_with fail
                go_meet
                case rel => exact ⟨A6, c6, HS6.out.sub (List.sublist_append_left [_, _, _] [_])⟩
    case rest =>
      obtain ⟨A, c, hS7⟩ := hcut
      clear g0 g1 g2 g3 g4 g5 g7 g8 g9 gA q0 q5 q6 q7 q8 q9 qx HS2 HCF HRM HVJ HI HLN r0 r1 r2 r3 HS0
      obtain ⟨t2, ht2⟩ : ∃ q : GaT, ({ t with Am := A, cm := c, mks := M' } : GaT) = q := ⟨_, rfl⟩
      rw [ht2] at hS7
      have HT2 := hide (show t2.s = t.s ∧ t2.old = t.old ∧ t2.mks = M' from by rw [← ht2]; exact ⟨rfl, rfl, rfl⟩)
      have HOK2 := hide (show ROk t2.s from by rw [HT2.out.1]; exact HOKt.out)
      have HW2 := hide (show rWrong ⟨4, (R : Int), (Q : Int), (kk : Int), dn⟩ (absR t2.s) = 0 from by rw [HT2.out.1]; exact HW0t.out)
      have HST2 := hide (show stepK ⟨4, (R : Int), (Q : Int), (kk : Int), dn⟩ (absR t2.s) = (⟨oc, orf, on⟩, σ') from by rw [HT2.out.1]; exact HSTt.out)
      obtain ⟨q0, q5, -⟩ := gI_cells hS7 (k := 0) rfl
      obtain ⟨qa, -, qc, -⟩ := hS7.rules 1 (g := gd) (t := 39) rfl; have q6 := (qa 0).trans (show _ = some (.int .i64 4) from rfl); have q7 := (qa 1).trans (show _ = some (.int .i64 (R : Int)) from rfl); have q8 := (qa 2).trans (show _ = some (.int .i64 (Q : Int)) from rfl); have q9 := (qa 3).trans (show _ = some (.int .i64 (kk : Int)) from rfl); have qx := (qa 4).trans (show _ = some (.int .i64 dn) from rfl)
      have HS7 := hide hS7
      clear hS7 qa ht2
      go_wp2_with fail
      obtain ⟨gx, hgx⟩ : ∃ x, wc.heap.size = x := ⟨_, rfl⟩
      have nx1 : Ba ≠ gx := by have h1 := (gI_cells HS7.out (k := 0) rfl).2.1; omega
      have nx2 : gx ≠ Ba := fun e => nx1 e.symm
      have nx3 : gd ≠ gx := by have h1 := HS7.out.hi 1 rfl gd rfl; omega
      have nx4 : gx ≠ gd := fun e => nx3 e.symm
      have CD1 := hide (gaDoI HS7.out.drew HOK2.out ⟨4, (R : Int), (Q : Int), (kk : Int), dn⟩ HW2.out)
      have CD2 := hide (gaDoI ((HS7.out.blkAt 41 #[.int .i64 0, .bool false, .int .i64 0] hgx).drew) HOK2.out ⟨4, (R : Int), (Q : Int), (kk : Int), dn⟩ HW2.out)
      rw [HST2.out] at CD1 CD2
      unfold DoV.cells OutV.val at CD1 CD2
      dsimp only at CD1 CD2
      go_cut [10] from 103 to 109 (fun s7 wx => ∃ (b : Nat) (s' : RMem), s7 = .pointer (some ⟨b, 0, none⟩) ∧ Hid (absR s' = σ') ∧ Hid (s'.gone.length = s'.obs.length) ∧ Hid (s'.gone = t2.s.gone) ∧ Sep (gaI Ba Bm t).fp w wx [gaI Ba Bm { t2 with s := s' }, blkI gd 39 #[.int .i64 4, .int .i64 (R : Int), .int .i64 (Q : Int), .int .i64 (kk : Int), .int .i64 dn], blkI (gd + 1) 41 #[.int .i64 0, .bool false, .int .i64 0], blkI b 41 #[.int .i64 oc, .bool orf, .int .i64 on]])
      case first =>
        go_region_held3 (fun w' => w'.cell? ⟨Ba, 0, none⟩ = some (.pointer (some ⟨Bm, 0, none⟩)) ∧ w'.cell? ⟨gd, 0, none⟩ = some (.int .i64 4) ∧ w'.cell? ⟨gd, 1, none⟩ = some (.int .i64 (R : Int)) ∧ w'.cell? ⟨gd, 2, none⟩ = some (.int .i64 (Q : Int)) ∧ w'.cell? ⟨gd, 3, none⟩ = some (.int .i64 (kk : Int)) ∧ w'.cell? ⟨gd, 4, none⟩ = some (.int .i64 dn)) (first | go_keep | (simp only [World.cell?_drew]; assumption) | (simp (config := { maxDischargeDepth := 8 }) [*, World.cell?_alloc_some]; done) | assumption)
          (((go_at_call 81); first
            | ((with_reducible refine CD1.out.mono ?_); rintro e w3 ⟨s', rfl, hab, hgn, hgn2, hS3⟩; obtain ⟨m0, m5, -⟩ := gI_cells hS3 (k := 0) rfl; obtain ⟨ma, -, mc, -⟩ := hS3.rules 1 (g := gd) (t := 39) rfl; have m6 := (ma 0).trans (show _ = some (.int .i64 4) from rfl); have m7 := (ma 1).trans (show _ = some (.int .i64 (R : Int)) from rfl); have m8 := (ma 2).trans (show _ = some (.int .i64 (Q : Int)) from rfl); have m9 := (ma 3).trans (show _ = some (.int .i64 (kk : Int)) from rfl); have mx := (ma 4).trans (show _ = some (.int .i64 dn) from rfl); have HS3 := hide (hS3.blkAt 41 #[.int .i64 oc, .bool orf, .int .i64 on] (g := w3.heap.size) rfl); have HAB := hide hab; have HGN := hide hgn; have HGN2 := hide hgn2; have HKK := hide True.intro; clear hab hgn hgn2 hS3 ma)
            | ((with_reducible refine CD2.out.mono ?_); rintro e w3 ⟨s', rfl, hab, hgn, hgn2, hS3⟩; obtain ⟨m0, m5, -⟩ := gI_cells hS3 (k := 0) rfl; obtain ⟨ma, -, mc, -⟩ := hS3.rules 1 (g := gd) (t := 39) rfl; have m6 := (ma 0).trans (show _ = some (.int .i64 4) from rfl); have m7 := (ma 1).trans (show _ = some (.int .i64 (R : Int)) from rfl); have m8 := (ma 2).trans (show _ = some (.int .i64 (Q : Int)) from rfl); have m9 := (ma 3).trans (show _ = some (.int .i64 (kk : Int)) from rfl); have mx := (ma 4).trans (show _ = some (.int .i64 dn) from rfl); obtain ⟨o1, o2, o3, -⟩ := hS3.rules 3 (g := gx) (t := 41) rfl; have HS3 := hide hS3; have HAB := hide hab; have HGN := hide hgn; have HGN2 := hide hgn2; clear hab hgn hgn2 hS3 ma)))
        all_goals
          go_wp2_with fail
          have HGN3 := hide (show s'.gone = t2.s.gone from HGN2.out.trans (HGD.out t2.s.gone))
          go_meet
          case rel => first
            | (have hk := HKK.out
               exact ⟨w3.heap.size, s', rfl, HAB, HGN, HGN3, HS3.out⟩)
            | exact ⟨gx, s', rfl, HAB, HGN, HGN3, ((HS3.out.set_ 3 (g := gx) (t := 41) rfl 0 (.int .i64 oc)).set_ 3 (g := gx) (t := 41) rfl 1 (.bool orf)).set_ 3 (g := gx) (t := 41) rfl 2 (.int .i64 on)⟩
      case rest =>
        obtain ⟨b, s', rfl, HAB, HGN, HGN3, hS4⟩ := hcut
        clear CD1 CD2
        have HS4 := hide hS4
        obtain ⟨y1, y2, y3, -⟩ := HS4.out.rules 2 (g := gd + 1) (t := 41) rfl
        obtain ⟨v1, v2, v3, -⟩ := HS4.out.rules 3 (g := b) (t := 41) rfl
        have v5 := (v1 0).trans (show _ = some (.int .i64 oc) from rfl)
        have v6 := (v1 1).trans (show _ = some (.bool orf) from rfl)
        have v7 := (v1 2).trans (show _ = some (.int .i64 on) from rfl)
        obtain ⟨l1, -, l3, -⟩ := HS4.out.rules 1 (g := gd) (t := 39) rfl
        have l5 := (l1 0).trans (show _ = some (.int .i64 4) from rfl)
        clear l1 v1
        have HEQ := hide (show ({ t2 with s := s' } : GaT).a = ⟨σ', t.old, t.s.gone, M'⟩ from by rw [← HAB.out, ← HT2.out.2.1, ← HT2.out.2.2, ← HT2.out.1, ← HGN3.out]; rfl)
        clear hS4
        go_wp2_with fail
        have hF := ((HS4.out.set_ 2 (g := gd + 1) (t := 41) rfl 0 (.int .i64 oc)).set_ 2 (g := gd + 1) (t := 41) rfl 1 (.bool orf)).set_ 2 (g := gd + 1) (t := 41) rfl 2 (.int .i64 on)
        obtain ⟨z1, -, -, -⟩ := hF.rules 2 (g := gd + 1) (t := 41) rfl
        refine bodyPost_ret (v := .agg #[.int .i64 oc, .bool orf, .int .i64 on]) (by simp [results, Try.results93, go_sem, z1]) rfl ⟨rfl, _, HEQ.out, HGN.out, hF.sub (List.sublist_append_left [_] [_, _, _])⟩
theorem ga_appO {F : Nat → Prop} {W w : World} {Ba Bm : Nat} {t : GaT} {L : List Item} {A : Option Addr} {c : Nat} (h : Sep F W w (blkI Ba 205 #[.pointer (some ⟨Bm, 0, none⟩), .slice A (t.old.length + 1) c, .slice t.Am t.mks.length t.cm] :: rowI 4 1 A (t.old.length + 1) c (bools t.old ++ [.bool false]) :: rowI 174 2 t.Am t.mks.length t.cm (gpsV t.mks) :: rmI Bm t.s :: L)) :
    Sep F W w (gaI Ba Bm { t with Ao := A, oc := c, old := t.old ++ [false] } :: L) := by
  have e1 : (t.old ++ [false]).length = t.old.length + 1 := by simp
  have e2 : bools (t.old ++ [false]) = bools t.old ++ [.bool false] := by simp [bools]
  have h2 : Sep F W w (gaL Ba Bm { t with Ao := A, oc := c, old := t.old ++ [false] } ++ L) := by
    unfold gaL gaC
    dsimp only
    rw [e1, e2]
    exact h
  exact h2.join
set_option maxRecDepth 100000 in
set_option maxHeartbeats 64000000 in
theorem gStep_newF {Ba Bm : Nat} {t : GaT} {w : World} (hP : (gaI Ba Bm t).P w) (ok : GaOk t) (d : DoV) (room : Nat) (hd1 : d.k = 1) (hfu : 24 ≤ (grRoom room t.a).many true) (hw : rWrong d (absR t.s) = 0) : GStepOk Ba Bm t w d room := by
  unfold GStepOk
  obtain ⟨gd, hgd⟩ : ∃ g, w.heap.size = g := ⟨_, rfl⟩
  have hS0 := ((Sep.start hP).blkAt 39 d.cells hgd).blkAt 41 #[.int .i64 0, .bool false, .int .i64 0] (g := gd + 1) (by simp [hgd])
  have CW := rwrong_any (gI_rm hS0.drew (k := 0) rfl) ok.ok d
  rw [hw] at CW
  obtain ⟨k0, k5, -⟩ := gI_cells hS0 (k := 0) rfl
  obtain ⟨x1, x2, x3, -⟩ := hS0.rules 1 (g := gd) (t := 39) rfl
  have hm : ¬ wrongM d ≠ 0 := fun h => by unfold rWrong at hw; rw [if_pos h] at hw; exact h hw
  have hs := stepM_rw d t.a.σ
  rw [if_neg (show ¬ rWrong d t.a.σ ≠ 0 from fun h => h hw)] at hs
  have hps : t.a.σ = absR t.s := rfl
  obtain ⟨⟨⟨oc, orf, on⟩, σ'⟩, hsk⟩ : ∃ p, stepK d (absR t.s) = p := ⟨_, rfl⟩
  obtain ⟨rr, hrr⟩ : ∃ q, grRoom room t.a = q := ⟨_, rfl⟩
  have hst : grStep room d t.a = (⟨6, false, 0⟩, rr) := by
    rw [hps, hsk] at hs
    have e1 : rr.σ = absR t.s := by rw [← hrr]; exact GrA.room_σ room t.a
    unfold grStep
    rw [if_neg (by omega), if_neg (by omega), if_neg hm, if_pos hd1, hrr, if_pos (by rw [← hrr]; exact hfu)]
  rw [hst]
  obtain ⟨dk, dto, dfr, dat, dn⟩ := d
  dsimp only at hd1
  subst hd1
  have HGD := hide (show ∀ g : List Bool, goneD ⟨1, dto, dfr, dat, dn⟩ g = g ++ [false] from fun g => if_pos rfl)
  have HRR := hide hrr
  have HSTt := hide hsk
  have HMN := hide (fun (X : World) (tt : GaT) (okk : GaOk tt) (bb : Bool) (hX : (gaI Ba Bm tt).P X) => gamany_any hX okk.hl (by have := okk.n; omega) bb)
  obtain ⟨m1, hm1⟩ : ∃ m, t.a.many false = m := ⟨_, rfl⟩
  have HM1 := hide hm1
  have HFU := hide (show 24 ≤ rr.many true from by rw [← hrr]; exact hfu)
  unfold DoV.cells at x1 x2 x3 CW hS0 k0 k5 ⊢
  dsimp only at x1 x2 x3 CW hS0 k0 k5 ⊢
  have f0 := (x1 0).trans (show _ = some (.int .i64 1) from rfl)
  have f1 := (x1 1).trans (show _ = some (.int .i64 dto) from rfl)
  have f2 := (x1 2).trans (show _ = some (.int .i64 dfr) from rfl)
  have f3 := (x1 3).trans (show _ = some (.int .i64 dat) from rfl)
  have f4 := (x1 4).trans (show _ = some (.int .i64 dn) from rfl)
  have HCW := hide CW
  have HS0 := hide hS0
  have HW0t := hide hw
  have HOKt := hide ok.ok
  have HGOK := hide ok
  unfold OutV.val
  dsimp only
  clear hP hS0 ok CW x1 hst hw hs hm hps hsk hrr hm1 hfu
  go_enter Try.func93, Try.ntmps93
  go_wp2_with fail
  go_region_held3 (fun w' => w'.cell? ⟨Ba, 0, none⟩ = some (.pointer (some ⟨Bm, 0, none⟩)) ∧ w'.cell? ⟨gd, 0, none⟩ = some (.int .i64 1) ∧ w'.cell? ⟨gd, 1, none⟩ = some (.int .i64 dto) ∧ w'.cell? ⟨gd, 2, none⟩ = some (.int .i64 dfr) ∧ w'.cell? ⟨gd, 3, none⟩ = some (.int .i64 dat) ∧ w'.cell? ⟨gd, 4, none⟩ = some (.int .i64 dn)) (first | go_keep | (simp only [World.cell?_drew]; assumption) | assumption)
    ((go_at_call 78; (with_reducible refine HCW.out.mono ?_); rintro e w2 ⟨rfl, hb2⟩; have hS2 := HS0.out.drew.below hb2; obtain ⟨q0, q5, -⟩ := gI_cells hS2 (k := 0) rfl; obtain ⟨qa, -, qc, -⟩ := hS2.rules 1 (g := gd) (t := 39) rfl; have q6 := (qa 0).trans (show _ = some (.int .i64 1) from rfl); have q7 := (qa 1).trans (show _ = some (.int .i64 dto) from rfl); have q8 := (qa 2).trans (show _ = some (.int .i64 dfr) from rfl); have q9 := (qa 3).trans (show _ = some (.int .i64 dat) from rfl); have qx := (qa 4).trans (show _ = some (.int .i64 dn) from rfl); have HS2 := hide hS2; clear hS2 hb2 qa))
  all_goals
    have CMF := hide (HMN.out _ t HGOK.out false (HS2.out.get 0 rfl))
    rw [HM1.out] at CMF
    have CMI := hide (gaMinorI HS2.out HGOK.out)
    go_upto_if 39 with ((go_at_call 153; (with_reducible refine CMF.out.mono ?_); rintro e w2b ⟨rfl, rfl⟩))
    go_cut [] from 39 to 42 (fun wx => ∃ t2 : GaT, Hid (t2.a = rr) ∧ Hid (GaOk t2) ∧ Sep (gaI Ba Bm t).fp w wx [gaI Ba Bm t2, blkI gd 39 #[.int .i64 1, .int .i64 dto, .int .i64 dfr, .int .i64 dat, .int .i64 dn], blkI (gd + 1) 41 #[.int .i64 0, .bool false, .int .i64 0]])
    case first =>
      by_cases hrm : room ≤ m1
      · have t1 : decide (room ≤ m1) = true := by simp [hrm]
        have HA := hide (show t.a.minor = rr from by rw [← HRR.out]; unfold grRoom; rw [HM1.out, if_pos hrm])
        have hrI : (room : Int) ≤ (m1 : Int) := by omega
        clear CMF
        go_wp2_with fail
        refine CMI.out.mono ?_
        rintro e w3 ⟨⟨u, rfl⟩, t2, hta, hgn, hS3⟩
        have HTA := hide (hta.trans HA.out)
        have HOK3 := hide (HGOK.out.of_minor hta hgn)
        have HS3 := hide hS3
        clear hS3 hta hgn CMI
        go_wp2_with fail
        go_meet
        case rel => exact ⟨t2, HTA, HOK3, HS3.out⟩
      · have t1 : decide (room ≤ m1) = false := by simp; omega
        have HA := hide (show t.a = rr from by rw [← HRR.out]; unfold grRoom; rw [HM1.out, if_neg hrm])
        have hrI : ¬ (room : Int) ≤ (m1 : Int) := by omega
        have hrJ : (m1 : Int) < (room : Int) := by omega
        clear CMF CMI
        go_wp2_with fail
        go_meet
        case rel => exact ⟨t, HA, HGOK, HS2.out⟩
    case rest =>
      obtain ⟨t2, HTA, HGOK2, hS7⟩ := hcut
      have HS7 := hide hS7
      clear CMF CMI HS2 q0 q5 q6 q7 q8 q9 qx
      obtain ⟨q0, q5, -⟩ := gI_cells hS7 (k := 0) rfl
      obtain ⟨qa, -, qc, -⟩ := hS7.rules 1 (g := gd) (t := 39) rfl; have q6 := (qa 0).trans (show _ = some (.int .i64 1) from rfl); have q7 := (qa 1).trans (show _ = some (.int .i64 dto) from rfl); have q8 := (qa 2).trans (show _ = some (.int .i64 dfr) from rfl); have q9 := (qa 3).trans (show _ = some (.int .i64 dat) from rfl); have qx := (qa 4).trans (show _ = some (.int .i64 dn) from rfl)
      obtain ⟨y1, y2, y3, -⟩ := hS7.rules 2 (g := gd + 1) (t := 41) rfl
      have CMT := hide (HMN.out _ t2 HGOK2.out true (hS7.get 0 rfl))
      obtain ⟨m2, hm2⟩ : ∃ m, t2.a.many true = m := ⟨_, rfl⟩
      rw [hm2] at CMT
      have HM2 := hide (show rr.many true = m2 from by rw [← HTA.out]; exact hm2)
      clear hS7 qa hm2 HMN HM1
      have hfu := HFU.out
      rw [HM2.out] at hfu
      have t1 : decide (24 ≤ m2) = true := by simp [hfu]
      have hfI : (24 : Int) ≤ (m2 : Int) := by omega
      have t1b : decide ((24 : Int) ≤ (m2 : Int)) = true := by simp; omega
      go_wp2_with (go_at_call 153; (with_reducible refine CMT.out.mono ?_); rintro e w2b ⟨rfl, rfl⟩)
      have hF := ((HS7.out.set_ 2 (g := gd + 1) (t := 41) rfl 0 (.int .i64 6)).set_ 2 (g := gd + 1) (t := 41) rfl 1 (.bool false)).set_ 2 (g := gd + 1) (t := 41) rfl 2 (.int .i64 0)
      obtain ⟨z1, -, -, -⟩ := hF.rules 2 (g := gd + 1) (t := 41) rfl
      refine bodyPost_ret (v := .agg #[.int .i64 6, .bool false, .int .i64 0]) (by simp [results, Try.results93, go_sem, z1]) rfl ⟨rfl, t2, HTA.out, HGOK2.out.ok.k, hF.sub (List.sublist_append_left [_] [_, _])⟩
set_option maxRecDepth 100000 in
set_option maxHeartbeats 64000000 in
theorem gStep_newN {Ba Bm : Nat} {t : GaT} {w : World} (hP : (gaI Ba Bm t).P w) (ok : GaOk t) (d : DoV) (room : Nat) (hd1 : d.k = 1) (hfu : ¬ 24 ≤ (grRoom room t.a).many true) (hw : rWrong d (absR t.s) = 0) : GStepOk Ba Bm t w d room := by
  unfold GStepOk
  obtain ⟨gd, hgd⟩ : ∃ g, w.heap.size = g := ⟨_, rfl⟩
  have hS0 := ((Sep.start hP).blkAt 39 d.cells hgd).blkAt 41 #[.int .i64 0, .bool false, .int .i64 0] (g := gd + 1) (by simp [hgd])
  have CW := rwrong_any (gI_rm hS0.drew (k := 0) rfl) ok.ok d
  rw [hw] at CW
  obtain ⟨k0, k5, -⟩ := gI_cells hS0 (k := 0) rfl
  obtain ⟨x1, x2, x3, -⟩ := hS0.rules 1 (g := gd) (t := 39) rfl
  have hm : ¬ wrongM d ≠ 0 := fun h => by unfold rWrong at hw; rw [if_pos h] at hw; exact h hw
  have hs := stepM_rw d t.a.σ
  rw [if_neg (show ¬ rWrong d t.a.σ ≠ 0 from fun h => h hw)] at hs
  have hps : t.a.σ = absR t.s := rfl
  obtain ⟨⟨⟨oc, orf, on⟩, σ'⟩, hsk⟩ : ∃ p, stepK d (absR t.s) = p := ⟨_, rfl⟩
  obtain ⟨rr, hrr⟩ : ∃ q, grRoom room t.a = q := ⟨_, rfl⟩
  have hst : grStep room d t.a = (⟨oc, orf, on⟩, ⟨σ', rr.old ++ [false], rr.gone ++ [false], rr.mks⟩) := by
    rw [hps, hsk] at hs
    have e1 : rr.σ = absR t.s := by rw [← hrr]; exact GrA.room_σ room t.a
    unfold grStep
    rw [if_neg (by omega), if_neg (by omega), if_neg hm, if_pos hd1, hrr, if_neg (by rw [← hrr]; exact hfu)]
    unfold GrA.new_
    rw [e1, hs]
  rw [hst]
  obtain ⟨dk, dto, dfr, dat, dn⟩ := d
  dsimp only at hd1
  subst hd1
  have HGD := hide (show ∀ g : List Bool, goneD ⟨1, dto, dfr, dat, dn⟩ g = g ++ [false] from fun g => if_pos rfl)
  have HRR := hide hrr
  have HSTt := hide hsk
  have HMN := hide (fun (X : World) (tt : GaT) (okk : GaOk tt) (bb : Bool) (hX : (gaI Ba Bm tt).P X) => gamany_any hX okk.hl (by have := okk.n; omega) bb)
  obtain ⟨m1, hm1⟩ : ∃ m, t.a.many false = m := ⟨_, rfl⟩
  have HM1 := hide hm1
  have HFU := hide (show ¬ 24 ≤ rr.many true from by rw [← hrr]; exact hfu)
  unfold DoV.cells at x1 x2 x3 CW hS0 k0 k5 ⊢
  dsimp only at x1 x2 x3 CW hS0 k0 k5 ⊢
  have f0 := (x1 0).trans (show _ = some (.int .i64 1) from rfl)
  have f1 := (x1 1).trans (show _ = some (.int .i64 dto) from rfl)
  have f2 := (x1 2).trans (show _ = some (.int .i64 dfr) from rfl)
  have f3 := (x1 3).trans (show _ = some (.int .i64 dat) from rfl)
  have f4 := (x1 4).trans (show _ = some (.int .i64 dn) from rfl)
  have HCW := hide CW
  have HS0 := hide hS0
  have HW0t := hide hw
  have HOKt := hide ok.ok
  have HGOK := hide ok
  unfold OutV.val
  dsimp only
  clear hP hS0 ok CW x1 hst hw hs hm hps hsk hrr hm1 hfu
  go_enter Try.func93, Try.ntmps93
  go_wp2_with fail
  go_region_held3 (fun w' => w'.cell? ⟨Ba, 0, none⟩ = some (.pointer (some ⟨Bm, 0, none⟩)) ∧ w'.cell? ⟨gd, 0, none⟩ = some (.int .i64 1) ∧ w'.cell? ⟨gd, 1, none⟩ = some (.int .i64 dto) ∧ w'.cell? ⟨gd, 2, none⟩ = some (.int .i64 dfr) ∧ w'.cell? ⟨gd, 3, none⟩ = some (.int .i64 dat) ∧ w'.cell? ⟨gd, 4, none⟩ = some (.int .i64 dn)) (first | go_keep | (simp only [World.cell?_drew]; assumption) | assumption)
    ((go_at_call 78; (with_reducible refine HCW.out.mono ?_); rintro e w2 ⟨rfl, hb2⟩; have hS2 := HS0.out.drew.below hb2; obtain ⟨q0, q5, -⟩ := gI_cells hS2 (k := 0) rfl; obtain ⟨qa, -, qc, -⟩ := hS2.rules 1 (g := gd) (t := 39) rfl; have q6 := (qa 0).trans (show _ = some (.int .i64 1) from rfl); have q7 := (qa 1).trans (show _ = some (.int .i64 dto) from rfl); have q8 := (qa 2).trans (show _ = some (.int .i64 dfr) from rfl); have q9 := (qa 3).trans (show _ = some (.int .i64 dat) from rfl); have qx := (qa 4).trans (show _ = some (.int .i64 dn) from rfl); have HS2 := hide hS2; clear hS2 hb2 qa))
  all_goals
    have CMF := hide (HMN.out _ t HGOK.out false (HS2.out.get 0 rfl))
    rw [HM1.out] at CMF
    have CMI := hide (gaMinorI HS2.out HGOK.out)
    go_upto_if 39 with ((go_at_call 153; (with_reducible refine CMF.out.mono ?_); rintro e w2b ⟨rfl, rfl⟩))
    go_cut [] from 39 to 42 (fun wx => ∃ t2 : GaT, Hid (t2.a = rr) ∧ Hid (GaOk t2) ∧ Sep (gaI Ba Bm t).fp w wx [gaI Ba Bm t2, blkI gd 39 #[.int .i64 1, .int .i64 dto, .int .i64 dfr, .int .i64 dat, .int .i64 dn], blkI (gd + 1) 41 #[.int .i64 0, .bool false, .int .i64 0]])
    case first =>
      by_cases hrm : room ≤ m1
      · have t1 : decide (room ≤ m1) = true := by simp [hrm]
        have HA := hide (show t.a.minor = rr from by rw [← HRR.out]; unfold grRoom; rw [HM1.out, if_pos hrm])
        have hrI : (room : Int) ≤ (m1 : Int) := by omega
        clear CMF
        go_wp2_with fail
        refine CMI.out.mono ?_
        rintro e w3 ⟨⟨u, rfl⟩, t2, hta, hgn, hS3⟩
        have HTA := hide (hta.trans HA.out)
        have HOK3 := hide (HGOK.out.of_minor hta hgn)
        have HS3 := hide hS3
        clear hS3 hta hgn CMI
        go_wp2_with fail
        go_meet
        case rel => exact ⟨t2, HTA, HOK3, HS3.out⟩
      · have t1 : decide (room ≤ m1) = false := by simp; omega
        have HA := hide (show t.a = rr from by rw [← HRR.out]; unfold grRoom; rw [HM1.out, if_neg hrm])
        have hrI : ¬ (room : Int) ≤ (m1 : Int) := by omega
        have hrJ : (m1 : Int) < (room : Int) := by omega
        clear CMF CMI
        go_wp2_with fail
        go_meet
        case rel => exact ⟨t, HA, HGOK, HS2.out⟩
    case rest =>
      obtain ⟨t2, HTA, HGOK2, hS7⟩ := hcut
      have HS7 := hide hS7
      clear CMF CMI HS2 q0 q5 q6 q7 q8 q9 qx
      obtain ⟨q0, q5, -⟩ := gI_cells hS7 (k := 0) rfl
      obtain ⟨qa, -, qc, -⟩ := hS7.rules 1 (g := gd) (t := 39) rfl; have q6 := (qa 0).trans (show _ = some (.int .i64 1) from rfl); have q7 := (qa 1).trans (show _ = some (.int .i64 dto) from rfl); have q8 := (qa 2).trans (show _ = some (.int .i64 dfr) from rfl); have q9 := (qa 3).trans (show _ = some (.int .i64 dat) from rfl); have qx := (qa 4).trans (show _ = some (.int .i64 dn) from rfl)
      obtain ⟨y1, y2, y3, -⟩ := hS7.rules 2 (g := gd + 1) (t := 41) rfl
      have CMT := hide (HMN.out _ t2 HGOK2.out true (hS7.get 0 rfl))
      obtain ⟨m2, hm2⟩ : ∃ m, t2.a.many true = m := ⟨_, rfl⟩
      rw [hm2] at CMT
      have HM2 := hide (show rr.many true = m2 from by rw [← HTA.out]; exact hm2)
      clear hS7 qa hm2 HMN HM1
      have hfu := HFU.out
      rw [HM2.out] at hfu
      have t1 : decide (24 ≤ m2) = false := by simp; omega
      have HOK2 := hide HGOK2.out.ok
      have habs := (congrArg GrA.σ (HTA.out.trans HRR.out.symm)).trans (GrA.room_σ room t.a)
      have HW2 := hide (show rWrong ⟨1, dto, dfr, dat, dn⟩ (absR t2.s) = 0 from by rw [show absR t2.s = absR t.s from habs]; exact HW0t.out)
      have HST2 := hide (show stepK ⟨1, dto, dfr, dat, dn⟩ (absR t2.s) = (⟨oc, orf, on⟩, σ') from by rw [show absR t2.s = absR t.s from habs]; exact HSTt.out)
      have hfI : ¬ (24 : Int) ≤ (m2 : Int) := by omega
      have hfJ : (m2 : Int) < 24 := by omega
      have t1b : decide ((24 : Int) ≤ (m2 : Int)) = false := by simp; omega
      clear habs y1 y2 y3
      go_wp2_with (go_at_call 153; (with_reducible refine CMT.out.mono ?_); rintro e w2b ⟨rfl, rfl⟩)
      clear CMT
      obtain ⟨gx, hgx⟩ : ∃ x, w2b.heap.size = x := ⟨_, rfl⟩
      have nx1 : Ba ≠ gx := by have h1 := (gI_cells HS7.out (k := 0) rfl).2.1; omega
      have nx2 : gx ≠ Ba := fun e => nx1 e.symm
      have nx3 : gd ≠ gx := by have h1 := HS7.out.hi 1 rfl gd rfl; omega
      have nx4 : gx ≠ gd := fun e => nx3 e.symm
      have CD1 := hide (gaDoI HS7.out.drew HOK2.out ⟨1, dto, dfr, dat, dn⟩ HW2.out)
      have CD2 := hide (gaDoI ((HS7.out.blkAt 41 #[.int .i64 0, .bool false, .int .i64 0] hgx).drew) HOK2.out ⟨1, dto, dfr, dat, dn⟩ HW2.out)
      rw [HST2.out] at CD1 CD2
      unfold DoV.cells OutV.val at CD1 CD2
      dsimp only at CD1 CD2
      go_cut [10] from 103 to 109 (fun s7 wx => ∃ (b : Nat) (s' : RMem), s7 = .pointer (some ⟨b, 0, none⟩) ∧ Hid (absR s' = σ') ∧ Hid (s'.gone.length = s'.obs.length) ∧ Hid (s'.gone = t2.s.gone ++ [false]) ∧ Sep (gaI Ba Bm t).fp w wx [gaI Ba Bm { t2 with s := s' }, blkI gd 39 #[.int .i64 1, .int .i64 dto, .int .i64 dfr, .int .i64 dat, .int .i64 dn], blkI (gd + 1) 41 #[.int .i64 0, .bool false, .int .i64 0], blkI b 41 #[.int .i64 oc, .bool orf, .int .i64 on]])
      case first =>
        go_region_held3 (fun w' => w'.cell? ⟨Ba, 0, none⟩ = some (.pointer (some ⟨Bm, 0, none⟩)) ∧ w'.cell? ⟨gd, 0, none⟩ = some (.int .i64 1) ∧ w'.cell? ⟨gd, 1, none⟩ = some (.int .i64 dto) ∧ w'.cell? ⟨gd, 2, none⟩ = some (.int .i64 dfr) ∧ w'.cell? ⟨gd, 3, none⟩ = some (.int .i64 dat) ∧ w'.cell? ⟨gd, 4, none⟩ = some (.int .i64 dn)) (first | go_keep | (simp only [World.cell?_drew]; assumption) | (simp (config := { maxDischargeDepth := 8 }) [*, World.cell?_alloc_some]; done) | assumption)
          (((go_at_call 81); first
            | ((with_reducible refine CD1.out.mono ?_); rintro e w3 ⟨s', rfl, hab, hgn, hgn2, hS3⟩; obtain ⟨m0, m5, -⟩ := gI_cells hS3 (k := 0) rfl; obtain ⟨ma, -, mc, -⟩ := hS3.rules 1 (g := gd) (t := 39) rfl; have m6 := (ma 0).trans (show _ = some (.int .i64 1) from rfl); have m7 := (ma 1).trans (show _ = some (.int .i64 dto) from rfl); have m8 := (ma 2).trans (show _ = some (.int .i64 dfr) from rfl); have m9 := (ma 3).trans (show _ = some (.int .i64 dat) from rfl); have mx := (ma 4).trans (show _ = some (.int .i64 dn) from rfl); have HS3 := hide (hS3.blkAt 41 #[.int .i64 oc, .bool orf, .int .i64 on] (g := w3.heap.size) rfl); have HAB := hide hab; have HGN := hide hgn; have HGN2 := hide hgn2; have HKK := hide True.intro; clear hab hgn hgn2 hS3 ma)
            | ((with_reducible refine CD2.out.mono ?_); rintro e w3 ⟨s', rfl, hab, hgn, hgn2, hS3⟩; obtain ⟨m0, m5, -⟩ := gI_cells hS3 (k := 0) rfl; obtain ⟨ma, -, mc, -⟩ := hS3.rules 1 (g := gd) (t := 39) rfl; have m6 := (ma 0).trans (show _ = some (.int .i64 1) from rfl); have m7 := (ma 1).trans (show _ = some (.int .i64 dto) from rfl); have m8 := (ma 2).trans (show _ = some (.int .i64 dfr) from rfl); have m9 := (ma 3).trans (show _ = some (.int .i64 dat) from rfl); have mx := (ma 4).trans (show _ = some (.int .i64 dn) from rfl); obtain ⟨o1, o2, o3, -⟩ := hS3.rules 3 (g := gx) (t := 41) rfl; have HS3 := hide hS3; have HAB := hide hab; have HGN := hide hgn; have HGN2 := hide hgn2; clear hab hgn hgn2 hS3 ma)))
        all_goals
          go_wp2_with fail
          have HGN3 := hide (show s'.gone = t2.s.gone ++ [false] from HGN2.out.trans (HGD.out t2.s.gone))
          go_meet
          case rel => first
            | (have hk := HKK.out
               exact ⟨w3.heap.size, s', rfl, HAB, HGN, HGN3, HS3.out⟩)
            | exact ⟨gx, s', rfl, HAB, HGN, HGN3, ((HS3.out.set_ 3 (g := gx) (t := 41) rfl 0 (.int .i64 oc)).set_ 3 (g := gx) (t := 41) rfl 1 (.bool orf)).set_ 3 (g := gx) (t := 41) rfl 2 (.int .i64 on)⟩
      case rest =>
        obtain ⟨b, s', rfl, HAB, HGN, HGN3, hS4⟩ := hcut
        clear CD1 CD2
        have HS4 := hide hS4
        obtain ⟨y1, y2, y3, -⟩ := HS4.out.rules 2 (g := gd + 1) (t := 41) rfl
        obtain ⟨v1, v2, v3, -⟩ := HS4.out.rules 3 (g := b) (t := 41) rfl
        have v5 := (v1 0).trans (show _ = some (.int .i64 oc) from rfl)
        have v6 := (v1 1).trans (show _ = some (.bool orf) from rfl)
        have v7 := (v1 2).trans (show _ = some (.int .i64 on) from rfl)
        obtain ⟨l1, -, l3, -⟩ := HS4.out.rules 1 (g := gd) (t := 39) rfl
        have l5 := (l1 0).trans (show _ = some (.int .i64 1) from rfl)
        clear l1 v1
        obtain ⟨t3, ht3⟩ : ∃ q : GaT, ({ t2 with s := s' } : GaT) = q := ⟨_, rfl⟩
        rw [ht3] at hS4
        have HT3 := hide (show t3.s = s' ∧ t3.old = t2.old ∧ t3.mks = t2.mks from by rw [← ht3]; exact ⟨rfl, rfl, rfl⟩)
        have HN3 := hide (show t3.old.length ≤ 400 from by rw [HT3.out.2.1]; exact HGOK2.out.n)
        have HS5 := hide (show Sep (gaI Ba Bm t).fp w wc [blkI Ba 205 #[.pointer (some ⟨Bm, 0, none⟩), .slice t3.Ao t3.old.length t3.oc, .slice t3.Am t3.mks.length t3.cm], rowI 4 1 t3.Ao t3.old.length t3.oc (bools t3.old), rowI 174 2 t3.Am t3.mks.length t3.cm (gpsV t3.mks), rmI Bm t3.s, blkI gd 39 #[.int .i64 1, .int .i64 dto, .int .i64 dfr, .int .i64 dat, .int .i64 dn], blkI (gd + 1) 41 #[.int .i64 0, .bool false, .int .i64 0], blkI b 41 #[.int .i64 oc, .bool orf, .int .i64 on]] from Sep.split hS4)
        obtain ⟨k1, k2, k3, -⟩ := HS5.out.rules 0 (g := Ba) (t := 205) rfl
        have k5 := (k1 1).trans (show _ = some (.slice t3.Ao t3.old.length t3.oc) from rfl)
        have HEQ := hide (show ∀ (A : Option Addr) (c : Nat), ({ t3 with Ao := A, oc := c, old := t3.old ++ [false] } : GaT).a = ⟨σ', rr.old ++ [false], rr.gone ++ [false], rr.mks⟩ from fun A c => by
          rw [← HTA.out, ← HAB.out]
          show (⟨absR t3.s, t3.old ++ [false], t3.s.gone, t3.mks⟩ : GrA) = ⟨absR s', t2.old ++ [false], t2.s.gone ++ [false], t2.mks⟩
          rw [HT3.out.1, HT3.out.2.1, HT3.out.2.2, HGN3.out])
        have HGN4 := hide (show t3.s.gone.length = t3.s.obs.length from by rw [HT3.out.1]; exact HGN.out)
        clear hS4 ht3 k1 HS4
        go_wp2_with (first
          | (at_builtin
             refine wpList_app1 (cs := #[.bool false]) rfl (.tmp 116) (.tmp 117) 63 rfl (F := (gaI Ba Bm t).fp) (W := w) sBo (items := _ :: _ :: _ :: _ :: _ :: _ :: _ :: _) HS5.out 1 (n := t3.old.length) rfl rfl rfl (by simp) rfl rfl (by have := HN3.out; omega) ?_
             intro A9 c9 w9 hS9 hC9
             obtain ⟨j1, j2, j3, -⟩ := hS9.rules 0 (g := Ba) (t := 205) rfl
             (have j5 := (j1 1).trans (show _ = some (.slice t3.Ao t3.old.length t3.oc) from rfl))
             obtain ⟨i1, i2, i3, -⟩ := hS9.rules 6 (g := b) (t := 41) rfl
             (have i5 := (i1 0).trans (show _ = some (.int .i64 oc) from rfl))
             (have i6 := (i1 1).trans (show _ = some (.bool orf) from rfl))
             (have i7 := (i1 2).trans (show _ = some (.int .i64 on) from rfl))
             obtain ⟨h1, h2, h3, -⟩ := hS9.rules 5 (g := gd + 1) (t := 41) rfl
             (have ne1 : Ba ≠ b := fun e => hS9.other (a := 0) (b := 6) rfl rfl (by omega) Ba rfl e)
             (have ne2 : b ≠ Ba := fun e => ne1 e.symm)
             (have ne3 : Ba ≠ gd + 1 := fun e => hS9.other (a := 0) (b := 5) rfl rfl (by omega) Ba rfl e)
             (have ne4 : gd + 1 ≠ Ba := fun e => ne3 e.symm)
             clear hC9 j1 i1))
        have hF := ((((hS9.set_ 0 (g := Ba) (t := 205) rfl 1 (.slice A9 (t3.old.length + 1) c9)).set_ 5 (g := gd + 1) (t := 41) rfl 0 (.int .i64 oc)).set_ 5 (g := gd + 1) (t := 41) rfl 1 (.bool orf)).set_ 5 (g := gd + 1) (t := 41) rfl 2 (.int .i64 on))
        obtain ⟨z1, -, -, -⟩ := hF.rules 5 (g := gd + 1) (t := 41) rfl
        have hG := ga_appO (t := t3) (L := [_, _, _]) hF
        refine bodyPost_ret (v := .agg #[.int .i64 oc, .bool orf, .int .i64 on]) (by simp [results, Try.results93, go_sem, z1]) rfl ⟨rfl, _, HEQ.out A9 c9, HGN4.out, hG.sub (List.sublist_append_left [_] [_, _, _])⟩
end Go.Proofs.Ytjphckfbbiehdaa
