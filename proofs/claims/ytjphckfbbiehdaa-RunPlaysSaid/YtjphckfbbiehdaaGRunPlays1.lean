/- The reference of a memory with so many words: a step where nothing is wrong. The reference of a memory with so many words: a step with a new object. The reference of a memory with so many words: a script. -/
import Derived.Test.YtjphckfbbiehdaaGRunPlays0
import Derived.Test.YtjphckfbbiehdaaGTopIdeal6
set_option linter.unusedSimpArgs false
set_option linter.unusedVariables false
namespace Go.Proofs.Ytjphckfbbiehdaa
open Go.RowKit

set_option maxRecDepth 100000 in
set_option maxHeartbeats 32000000 in
theorem rrStep_other {Br Bm : Nat} {c : Int} {t : RrT} {w : World} (hP : (rI Br Bm c t).P w) (ok : ROk t.s) (d : DoV) (hd : d.k ≠ 8) (hd1 : d.k ≠ 1) (hw : rWrong d (absR t.s) = 0) : RStepOk Br Bm c t w d := by
  unfold RStepOk
  obtain ⟨gd, hgd⟩ : ∃ g, w.heap.size = g := ⟨_, rfl⟩
  have hS0 := ((Sep.start hP).blkAt 39 d.cells hgd).blkAt 41 #[.int .i64 0, .bool false, .int .i64 0] (g := gd + 1) (by simp [hgd])
  have CW := rwrong_any ((rI_flat (hS0.drew.get 0 rfl)).get 2 rfl) ok d
  rw [hw] at CW
  obtain ⟨k0, -, k5, -⟩ := rI_cells hS0 (k := 0) rfl
  obtain ⟨x1, x2, x3, -⟩ := hS0.rules 1 (g := gd) (t := 39) rfl
  obtain ⟨⟨⟨oc, orf, on⟩, σ'⟩, hsk⟩ : ∃ p, stepK d (absR t.s) = p := ⟨_, rfl⟩
  have hst : rrStep c d t.a = (⟨oc, orf, on⟩, ⟨σ', t.ws, t.times⟩) := by
    have hs := stepM_rw d t.a.σ
    rw [if_neg (show ¬ rWrong d t.a.σ ≠ 0 from fun h => h hw), show stepK d t.a.σ = (⟨oc, orf, on⟩, σ') from hsk] at hs
    have hm : ¬ wrongM d ≠ 0 := fun h => by unfold rWrong at hw; rw [if_pos h] at hw; exact h hw
    unfold rrStep
    rw [if_neg hd, if_neg hm, if_neg hd1, hs]
    rfl
  rw [hst]
  obtain ⟨dk, dto, dfr, dat, dn⟩ := d
  dsimp only at hd hd1
  unfold DoV.cells at x1 x2 x3 CW hS0 k0 k5 ⊢
  dsimp only at x1 x2 x3 CW hS0 k0 k5 ⊢
  have f0 := (x1 0).trans (show _ = some (.int .i64 dk) from rfl)
  have f1 := (x1 1).trans (show _ = some (.int .i64 dto) from rfl)
  have f2 := (x1 2).trans (show _ = some (.int .i64 dfr) from rfl)
  have f3 := (x1 3).trans (show _ = some (.int .i64 dat) from rfl)
  have f4 := (x1 4).trans (show _ = some (.int .i64 dn) from rfl)
  have HCW := hide CW
  have HS0 := hide hS0
  have HW0t := hide hw
  have HSTt := hide hsk
  have y8 : (dk == 8) = false := by simp [hd]
  have yx : (dk == 1) = false := by simp [hd1]
  have HOKt := hide ok
  unfold OutV.val
  dsimp only
  clear hP hS0 ok CW x1 hst hd hd1 hw hsk
  go_enter Try.func69, Try.ntmps69
  go_wp2_with fail
  go_region_held3 (fun w' => w'.cell? ⟨Br, 0, none⟩ = some (.pointer (some ⟨Bm, 0, none⟩)) ∧ w'.cell? ⟨gd, 0, none⟩ = some (.int .i64 dk) ∧ w'.cell? ⟨gd, 1, none⟩ = some (.int .i64 dto) ∧ w'.cell? ⟨gd, 2, none⟩ = some (.int .i64 dfr) ∧ w'.cell? ⟨gd, 3, none⟩ = some (.int .i64 dat) ∧ w'.cell? ⟨gd, 4, none⟩ = some (.int .i64 dn)) (first | go_keep | (simp only [World.cell?_drew]; assumption) | assumption)
    ((go_at_call 78; (with_reducible refine HCW.out.mono ?_); rintro e w2 ⟨rfl, hb2⟩; have hS2 := HS0.out.drew.below hb2; obtain ⟨q0, qm, q5, -⟩ := rI_cells hS2 (k := 0) rfl; obtain ⟨qa, -, qc, -⟩ := hS2.rules 1 (g := gd) (t := 39) rfl; have q6 := (qa 0).trans (show _ = some (.int .i64 dk) from rfl); have q7 := (qa 1).trans (show _ = some (.int .i64 dto) from rfl); have q8 := (qa 2).trans (show _ = some (.int .i64 dfr) from rfl); have q9 := (qa 3).trans (show _ = some (.int .i64 dat) from rfl); have qx := (qa 4).trans (show _ = some (.int .i64 dn) from rfl); have HS2 := hide hS2; clear hS2 hb2 qa))
  all_goals
    go_wp2_with fail
    obtain ⟨gx, hgx⟩ : ∃ x, w2.heap.size = x := ⟨_, rfl⟩
    have nx1 : Br ≠ gx := by have h1 := (rI_cells HS2.out (k := 0) rfl).2.2.1; omega
    have nx2 : gx ≠ Br := fun e => nx1 e.symm
    have nx3 : gd ≠ gx := by have h1 := HS2.out.hi 1 rfl gd rfl; omega
    have nx4 : gx ≠ gd := fun e => nx3 e.symm
    have CD1 := hide (rrDoI HS2.out.drew HOKt.out ⟨dk, dto, dfr, dat, dn⟩ HW0t.out)
    have CD2 := hide (rrDoI ((HS2.out.blkAt 41 #[.int .i64 0, .bool false, .int .i64 0] hgx).drew) HOKt.out ⟨dk, dto, dfr, dat, dn⟩ HW0t.out)
    rw [HSTt.out] at CD1 CD2
    unfold DoV.cells OutV.val at CD1 CD2
    dsimp only at CD1 CD2
    go_cut [7] from 44 to 50 (fun s7 wx => ∃ (b : Nat) (s' : RMem), s7 = .pointer (some ⟨b, 0, none⟩) ∧ Hid (absR s' = σ') ∧ Hid (s'.gone.length = s'.obs.length) ∧ Sep (rI Br Bm c t).fp w wx [rI Br Bm c { t with s := s' }, blkI gd 39 #[.int .i64 dk, .int .i64 dto, .int .i64 dfr, .int .i64 dat, .int .i64 dn], blkI (gd + 1) 41 #[.int .i64 0, .bool false, .int .i64 0], blkI b 41 #[.int .i64 oc, .bool orf, .int .i64 on]])
    case first =>
      go_region_held3 (fun w' => w'.cell? ⟨Br, 0, none⟩ = some (.pointer (some ⟨Bm, 0, none⟩)) ∧ w'.cell? ⟨gd, 0, none⟩ = some (.int .i64 dk) ∧ w'.cell? ⟨gd, 1, none⟩ = some (.int .i64 dto) ∧ w'.cell? ⟨gd, 2, none⟩ = some (.int .i64 dfr) ∧ w'.cell? ⟨gd, 3, none⟩ = some (.int .i64 dat) ∧ w'.cell? ⟨gd, 4, none⟩ = some (.int .i64 dn)) (first | go_keep | (simp only [World.cell?_drew]; assumption) | (simp (config := { maxDischargeDepth := 8 }) [*, World.cell?_alloc_some]; done) | assumption)
        (((go_at_call 81); first
          | ((with_reducible refine CD1.out.mono ?_); rintro e w3 ⟨s', rfl, hab, hgn, hS3⟩; obtain ⟨m0, mm, m5, -⟩ := rI_cells hS3 (k := 0) rfl; obtain ⟨ma, -, mc, -⟩ := hS3.rules 1 (g := gd) (t := 39) rfl; have m6 := (ma 0).trans (show _ = some (.int .i64 dk) from rfl); have m7 := (ma 1).trans (show _ = some (.int .i64 dto) from rfl); have m8 := (ma 2).trans (show _ = some (.int .i64 dfr) from rfl); have m9 := (ma 3).trans (show _ = some (.int .i64 dat) from rfl); have mx := (ma 4).trans (show _ = some (.int .i64 dn) from rfl); have HS3 := hide (hS3.blkAt 41 #[.int .i64 oc, .bool orf, .int .i64 on] (g := w3.heap.size) rfl); have HAB := hide hab; have HGN := hide hgn; have HKK := hide True.intro; clear hab hgn hS3 ma)
          | ((with_reducible refine CD2.out.mono ?_); rintro e w3 ⟨s', rfl, hab, hgn, hS3⟩; obtain ⟨m0, mm, m5, -⟩ := rI_cells hS3 (k := 0) rfl; obtain ⟨ma, -, mc, -⟩ := hS3.rules 1 (g := gd) (t := 39) rfl; have m6 := (ma 0).trans (show _ = some (.int .i64 dk) from rfl); have m7 := (ma 1).trans (show _ = some (.int .i64 dto) from rfl); have m8 := (ma 2).trans (show _ = some (.int .i64 dfr) from rfl); have m9 := (ma 3).trans (show _ = some (.int .i64 dat) from rfl); have mx := (ma 4).trans (show _ = some (.int .i64 dn) from rfl); obtain ⟨o1, o2, o3, -⟩ := hS3.rules 3 (g := gx) (t := 41) rfl; have HS3 := hide hS3; have HAB := hide hab; have HGN := hide hgn; clear hab hgn hS3 ma)))
      all_goals
        go_wp2_with fail
        go_meet
        case rel => first
          | (have hk := HKK.out
             exact ⟨w3.heap.size, s', rfl, HAB, HGN, HS3.out⟩)
          | exact ⟨gx, s', rfl, HAB, HGN, ((HS3.out.set_ 3 (g := gx) (t := 41) rfl 0 (.int .i64 oc)).set_ 3 (g := gx) (t := 41) rfl 1 (.bool orf)).set_ 3 (g := gx) (t := 41) rfl 2 (.int .i64 on)⟩
    case rest =>
      obtain ⟨b, s', rfl, HAB, HGN, hS4⟩ := hcut
      clear CD1 CD2
      have HS4 := hide hS4
      obtain ⟨y1, y2, y3, -⟩ := HS4.out.rules 2 (g := gd + 1) (t := 41) rfl
      obtain ⟨v1, v2, v3, -⟩ := HS4.out.rules 3 (g := b) (t := 41) rfl
      have v5 := (v1 0).trans (show _ = some (.int .i64 oc) from rfl)
      have v6 := (v1 1).trans (show _ = some (.bool orf) from rfl)
      have v7 := (v1 2).trans (show _ = some (.int .i64 on) from rfl)
      obtain ⟨l1, -, l3, -⟩ := HS4.out.rules 1 (g := gd) (t := 39) rfl
      have l5 := (l1 0).trans (show _ = some (.int .i64 dk) from rfl)
      clear l1 v1
      have HEQ := hide (show ({ t with s := s' } : RrT).a = ⟨σ', t.ws, t.times⟩ from by rw [← HAB.out]; rfl)
      clear hS4
      go_wp2_with fail
      have hF := ((HS4.out.set_ 2 (g := gd + 1) (t := 41) rfl 0 (.int .i64 oc)).set_ 2 (g := gd + 1) (t := 41) rfl 1 (.bool orf)).set_ 2 (g := gd + 1) (t := 41) rfl 2 (.int .i64 on)
      obtain ⟨z1, -, -, -⟩ := hF.rules 2 (g := gd + 1) (t := 41) rfl
      refine bodyPost_ret (v := .agg #[.int .i64 oc, .bool orf, .int .i64 on]) (by simp [results, Try.results69, go_sem, z1]) rfl ⟨rfl, _, HEQ.out, HGN.out, hF.sub (List.sublist_append_left [_] [_, _, _])⟩
end Go.Proofs.Ytjphckfbbiehdaa

namespace Go.Proofs.Ytjphckfbbiehdaa
open Go.RowKit

theorem rr_fit {W : Nat} {a : RnA} {r : RrA} (h : RrSim W a r) {c : Int} {n : Nat} (hp : 0 ≤ r.room c (1 + n)) : r.room c (1 + n) + 1 + n ≤ W := by
  rw [h.room c (by omega)] at hp ⊢
  have := (roomG_ok (sw := decide (c = 1)) (n := 1 + (n : Int)) (by omega) (fun x _ => a.sz_pos x) h.ok.lad (Int.le_refl _) hp).2.1
  unfold RnA.room
  omega
set_option maxRecDepth 100000 in
set_option maxHeartbeats 64000000 in
theorem rrStep_new {Br Bm : Nat} {c : Int} {t : RrT} {w : World} (hP : (rI Br Bm c t).P w) (ok : ROk t.s) (hc : c = 1 ∨ c = 2 ∨ c = 3) {W : Nat} {a : RnA} (h : RrSim W a t.a) (hW : W ≤ 256) (ht0 : 0 ≤ t.times) (ht1 : t.times ≤ 100000) (d : DoV) (hd1 : d.k = 1) (hw : rWrong d (absR t.s) = 0) : RStepOk Br Bm c t w d := by
  unfold RStepOk
  have hm : wrongM d = 0 := by
    rcases Int.decEq (wrongM d) 0 with e | e
    · unfold rWrong at hw; rw [if_pos e] at hw; exact absurd hw e
    · exact e
  obtain ⟨hn0, hn4⟩ := wrongM_n hm hd1
  obtain ⟨dk, dto, dfr, dat, dn⟩ := d
  dsimp only at hd1 hn0 hn4
  subst hd1
  obtain ⟨n, rfl⟩ := int_nat hn0
  obtain ⟨gd, hgd⟩ : ∃ g, w.heap.size = g := ⟨_, rfl⟩
  have hS0 := ((Sep.start hP).blkAt 39 (DoV.cells ⟨1, dto, dfr, dat, (n : Int)⟩) hgd).blkAt 41 #[.int .i64 0, .bool false, .int .i64 0] (g := gd + 1) (by simp [hgd])
  have CW := rwrong_any ((rI_flat (hS0.drew.get 0 rfl)).get 2 rfl) ok ⟨1, dto, dfr, dat, (n : Int)⟩
  rw [hw] at CW
  obtain ⟨k0, -, k5, -⟩ := rI_cells hS0 (k := 0) rfl
  obtain ⟨x1, x2, x3, -⟩ := hS0.rules 1 (g := gd) (t := 39) rfl
  obtain ⟨nO, hnO⟩ : ∃ q, (absR t.s).objs.length = q := ⟨_, rfl⟩
  have hsk : stepK ⟨1, dto, dfr, dat, (n : Int)⟩ (absR t.s) = (⟨0, false, 0⟩, ⟨(absR t.s).regs.set dto.toNat (true, (nO : Int)), (absR t.s).objs ++ [zeroVs n]⟩) := by
    unfold stepK
    rw [if_pos rfl, hnO]
    simp
  have hsm : stepM ⟨1, dto, dfr, dat, (n : Int)⟩ (absR t.s) = (⟨0, false, 0⟩, ⟨(absR t.s).regs.set dto.toNat (true, (nO : Int)), (absR t.s).objs ++ [zeroVs n]⟩) := by
    rw [stepM_rw, if_neg (fun h => h hw)]; exact hsk
  have hst : rrStep c ⟨1, dto, dfr, dat, (n : Int)⟩ t.a = (if 0 ≤ t.a.room c (1 + n) then (⟨0, false, 0⟩, ⟨⟨(absR t.s).regs.set dto.toNat (true, (nO : Int)), (absR t.s).objs ++ [zeroVs n]⟩, rstand t.ws (nO : Int) (t.a.room c (1 + n)).toNat (1 + n), t.times⟩)
      else if 0 ≤ (t.a.clear c).room c (1 + n) then (⟨0, false, 0⟩, ⟨⟨(absR t.s).regs.set dto.toNat (true, (nO : Int)), (absR t.s).objs ++ [zeroVs n]⟩, rstand (t.a.clear c).ws (nO : Int) ((t.a.clear c).room c (1 + n)).toNat (1 + n), t.times + 1⟩)
      else (⟨6, false, 0⟩, t.a.clear c)) := by
    unfold rrStep
    rw [if_neg (fun h => absurd (show (1 : Int) = 8 from h) (by decide)), if_neg (by omega), if_pos rfl]
    have e1 : (t.a.clear c).σ = absR t.s := by unfold RrA.clear; split <;> rfl
    have e2 : (t.a.clear c).times = t.times + 1 := by unfold RrA.clear; split <;> rfl
    have e3 : ∀ p, t.a.new_ ⟨1, dto, dfr, dat, (n : Int)⟩ p = (⟨0, false, 0⟩, ⟨⟨(absR t.s).regs.set dto.toNat (true, (nO : Int)), (absR t.s).objs ++ [zeroVs n]⟩, rstand t.ws (nO : Int) p.toNat (1 + n), t.times⟩) := fun p => by
      unfold RrA.new_
      rw [show t.a.σ = absR t.s from rfl, hsm, hnO]
      rfl
    have e4 : ∀ p, (t.a.clear c).new_ ⟨1, dto, dfr, dat, (n : Int)⟩ p = (⟨0, false, 0⟩, ⟨⟨(absR t.s).regs.set dto.toNat (true, (nO : Int)), (absR t.s).objs ++ [zeroVs n]⟩, rstand (t.a.clear c).ws (nO : Int) p.toNat (1 + n), t.times + 1⟩) := fun p => by
      unfold RrA.new_
      rw [e1, e2, hsm, hnO]
      rfl
    rw [e3, e4]
  rw [hst]
  have HNO := hide hnO
  have HNO9 := hide (show nO ≤ 500 from by rw [← hnO]; have h2 : (absR t.s).objs.length = t.s.obs.length := List.length_map ..; have := ok.n; omega)
  have HN4 := hide (show n ≤ 4 by omega)
  have HWLt := hide (show t.ws.length = W from h.wok.len)
  have hcl := h.clear hc
  have HFT1 := hide (fun (hp : 0 ≤ t.a.room c (1 + n)) => rr_fit h hp)
  have HFT2 := hide (fun (hp : 0 ≤ (t.a.clear c).room c (1 + n)) => rr_fit hcl hp)
  have HWC := hide (show (t.a.clear c).ws.length = W from hcl.wok.len)
  have HCLA := hide (rr_clear_a t c)
  have HCL := hide (fun (X : World) (hX : Sep (rI Br Bm c t).fp w X [rI Br Bm c t, blkI gd 39 #[.int .i64 1, .int .i64 dto, .int .i64 dfr, .int .i64 dat, .int .i64 (n : Int)], blkI (gd + 1) 41 #[.int .i64 0, .bool false, .int .i64 0]]) => rrClearI hX ok hc h hW ht0 ht1)
  have HRM := hide (fun (X : World) (t2 : RrT) (hl : t2.ws.length ≤ 256) (hX : (rI Br Bm c t2).P X) => (show Calls Try.prog 134 #[.pointer (some ⟨Br, 0, none⟩), .int .i64 (1 + (n : Int))] X fun e w' => e = .returned (.int .i64 (t2.a.room c (1 + n))) ∧ w' = X from rrRoom_any (rI_flat hX) hl (1 + (n : Int)) (by omega) (by omega)))
  have w8 : IntKind.i64.wrap (1 + (n : Int)) = 1 + (n : Int) := wrap64 _ (by omega) (by omega)
  obtain ⟨r1, hr1⟩ : ∃ r, t.a.room c (1 + n) = r := ⟨_, rfl⟩
  obtain ⟨r2, hr2⟩ : ∃ r, (t.a.clear c).room c (1 + n) = r := ⟨_, rfl⟩
  rw [hr1, hr2]
  rw [hr1] at HFT1
  rw [hr2] at HFT2
  have HR1 := hide hr1
  have HR2 := hide hr2
  have HOKt := hide ok
  have HW256 := hide hW
  unfold DoV.cells at x1 x2 x3 CW hS0 k0 k5 ⊢
  dsimp only at x1 x2 x3 CW hS0 k0 k5 ⊢
  have f0 := (x1 0).trans (show _ = some (.int .i64 1) from rfl)
  have f1 := (x1 1).trans (show _ = some (.int .i64 dto) from rfl)
  have f2 := (x1 2).trans (show _ = some (.int .i64 dfr) from rfl)
  have f3 := (x1 3).trans (show _ = some (.int .i64 dat) from rfl)
  have f4 := (x1 4).trans (show _ = some (.int .i64 (n : Int)) from rfl)
  have HCW := hide CW
  have HS0 := hide hS0
  have HW0t := hide hw
  have HSTt := hide hsk
  clear hP hS0 ok CW x1 hst hw hsk hsm hnO hcl h hr1 hr2 hm hW
  by_cases hp : 0 ≤ r1
  · rw [if_pos hp]
    obtain ⟨p, rfl⟩ := int_nat hp
    rw [Int.toNat_natCast]
    have HFITt := hide (show p + 1 + n ≤ t.ws.length from by have h1 := HFT1.out hp; have h2 := HWLt.out; omega)
    have HWLt' := HWLt
    have t1 : decide ((p : Int) < 0) = false := by simp
    have hp256 : p ≤ 256 := by have := HFITt.out; have := HWLt.out; have := HW256.out; omega
    replace HWLt := hide (show t.ws.length ≤ 256 from by have := HWLt'.out; have := HW256.out; omega)
    have CRM := hide (fun (X : World) (hX : (rI Br Bm c t).P X) => HRM.out X t HWLt.out hX)
    rw [HR1.out] at CRM
    clear HFT1 HFT2 HCL HCLA HWC HR2 HWLt' HRM
    unfold OutV.val
    dsimp only
    go_enter Try.func69, Try.ntmps69
    go_wp2_with fail
    go_region_held3 (fun w' => w'.cell? ⟨Br, 0, none⟩ = some (.pointer (some ⟨Bm, 0, none⟩)) ∧ w'.cell? ⟨gd, 0, none⟩ = some (.int .i64 1) ∧ w'.cell? ⟨gd, 1, none⟩ = some (.int .i64 dto) ∧ w'.cell? ⟨gd, 2, none⟩ = some (.int .i64 dfr) ∧ w'.cell? ⟨gd, 3, none⟩ = some (.int .i64 dat) ∧ w'.cell? ⟨gd, 4, none⟩ = some (.int .i64 (n : Int))) (first | go_keep | (simp only [World.cell?_drew]; assumption) | assumption)
      ((go_at_call 78; (with_reducible refine HCW.out.mono ?_); rintro e w2 ⟨rfl, hb2⟩; have hS2 := HS0.out.drew.below hb2; obtain ⟨q0, qm, q5, -⟩ := rI_cells hS2 (k := 0) rfl; obtain ⟨qa, -, qc, -⟩ := hS2.rules 1 (g := gd) (t := 39) rfl; have q6 := (qa 0).trans (show _ = some (.int .i64 1) from rfl); have q7 := (qa 1).trans (show _ = some (.int .i64 dto) from rfl); have q8 := (qa 2).trans (show _ = some (.int .i64 dfr) from rfl); have q9 := (qa 3).trans (show _ = some (.int .i64 dat) from rfl); have qx := (qa 4).trans (show _ = some (.int .i64 (n : Int)) from rfl); have HS2 := hide hS2; clear hS2 hb2 qa))
    all_goals
      go_wp2_with fail
      refine (CRM.out _ (HS2.out.get 0 rfl)).mono ?_
      rintro e w2b ⟨rfl, rfl⟩
      go_wp2_with fail
      obtain ⟨gx, hgx⟩ : ∃ x, w2b.heap.size = x := ⟨_, rfl⟩
      have nx1 : Br ≠ gx := by have h1 := (rI_cells HS2.out (k := 0) rfl).2.2.1; omega
      have nx2 : gx ≠ Br := fun e => nx1 e.symm
      have nx3 : gd ≠ gx := by have h1 := HS2.out.hi 1 rfl gd rfl; omega
      have nx4 : gx ≠ gd := fun e => nx3 e.symm
      have CD1 := hide (rrDoI HS2.out.drew HOKt.out ⟨1, dto, dfr, dat, (n : Int)⟩ HW0t.out)
      have CD2 := hide (rrDoI ((HS2.out.blkAt 41 #[.int .i64 0, .bool false, .int .i64 0] hgx).drew) HOKt.out ⟨1, dto, dfr, dat, (n : Int)⟩ HW0t.out)
      rw [HSTt.out] at CD1 CD2
      unfold DoV.cells OutV.val at CD1 CD2
      dsimp only at CD1 CD2
      go_cut [7] from 44 to 50 (fun s7 wx => ∃ (b : Nat) (s' : RMem), s7 = .pointer (some ⟨b, 0, none⟩) ∧ Hid (absR s' = ⟨(absR t.s).regs.set dto.toNat (true, (nO : Int)), (absR t.s).objs ++ [zeroVs n]⟩) ∧ Hid (s'.gone.length = s'.obs.length) ∧ Sep (rI Br Bm c t).fp w wx [rI Br Bm c { t with s := s' }, blkI gd 39 #[.int .i64 1, .int .i64 dto, .int .i64 dfr, .int .i64 dat, .int .i64 (n : Int)], blkI (gd + 1) 41 #[.int .i64 0, .bool false, .int .i64 0], blkI b 41 #[.int .i64 0, .bool false, .int .i64 0]])
      case first =>
        go_region_held3 (fun w' => w'.cell? ⟨Br, 0, none⟩ = some (.pointer (some ⟨Bm, 0, none⟩)) ∧ w'.cell? ⟨gd, 0, none⟩ = some (.int .i64 1) ∧ w'.cell? ⟨gd, 1, none⟩ = some (.int .i64 dto) ∧ w'.cell? ⟨gd, 2, none⟩ = some (.int .i64 dfr) ∧ w'.cell? ⟨gd, 3, none⟩ = some (.int .i64 dat) ∧ w'.cell? ⟨gd, 4, none⟩ = some (.int .i64 (n : Int))) (first | go_keep | (simp only [World.cell?_drew]; assumption) | (simp (config := { maxDischargeDepth := 8 }) [*, World.cell?_alloc_some]; done) | assumption)
          (((go_at_call 81); first
            | ((with_reducible refine CD1.out.mono ?_); rintro e w3 ⟨s', rfl, hab, hgn, hS3⟩; obtain ⟨m0, mm, m5, -⟩ := rI_cells hS3 (k := 0) rfl; obtain ⟨ma, -, mc, -⟩ := hS3.rules 1 (g := gd) (t := 39) rfl; have m6 := (ma 0).trans (show _ = some (.int .i64 1) from rfl); have m7 := (ma 1).trans (show _ = some (.int .i64 dto) from rfl); have m8 := (ma 2).trans (show _ = some (.int .i64 dfr) from rfl); have m9 := (ma 3).trans (show _ = some (.int .i64 dat) from rfl); have mx := (ma 4).trans (show _ = some (.int .i64 (n : Int)) from rfl); have HS3 := hide (hS3.blkAt 41 #[.int .i64 0, .bool false, .int .i64 0] (g := w3.heap.size) rfl); have HAB := hide hab; have HGN := hide hgn; have HKK := hide True.intro; clear hab hgn hS3 ma)
            | ((with_reducible refine CD2.out.mono ?_); rintro e w3 ⟨s', rfl, hab, hgn, hS3⟩; obtain ⟨m0, mm, m5, -⟩ := rI_cells hS3 (k := 0) rfl; obtain ⟨ma, -, mc, -⟩ := hS3.rules 1 (g := gd) (t := 39) rfl; have m6 := (ma 0).trans (show _ = some (.int .i64 1) from rfl); have m7 := (ma 1).trans (show _ = some (.int .i64 dto) from rfl); have m8 := (ma 2).trans (show _ = some (.int .i64 dfr) from rfl); have m9 := (ma 3).trans (show _ = some (.int .i64 dat) from rfl); have mx := (ma 4).trans (show _ = some (.int .i64 (n : Int)) from rfl); obtain ⟨o1, o2, o3, -⟩ := hS3.rules 3 (g := gx) (t := 41) rfl; have HS3 := hide hS3; have HAB := hide hab; have HGN := hide hgn; clear hab hgn hS3 ma)))
        all_goals
          go_wp2_with fail
          go_meet
          case rel => first
            | (have hk := HKK.out
               exact ⟨w3.heap.size, s', rfl, HAB, HGN, HS3.out⟩)
            | exact ⟨gx, s', rfl, HAB, HGN, ((HS3.out.set_ 3 (g := gx) (t := 41) rfl 0 (.int .i64 0)).set_ 3 (g := gx) (t := 41) rfl 1 (.bool false)).set_ 3 (g := gx) (t := 41) rfl 2 (.int .i64 0)⟩
      case rest =>
        obtain ⟨b, s', rfl, HAB, HGN, hS4⟩ := hcut
        clear CD1 CD2
        have HS4 := hide hS4
        obtain ⟨p0, p1, p2, p3⟩ := rI_cells hS4 (k := 0) rfl
        have hab := HAB.out
        have hlen : s'.obs.length = nO + 1 := by
          have h1 := congrArg (fun σ : MSt => σ.objs.length) hab
          have h2 : (absR s').objs.length = s'.obs.length := List.length_map ..
          have h3 := HNO.out
          simp only [List.length_append, List.length_singleton] at h1
          omega
        have hmn : ∀ (h : nO < s'.obs.length), (s'.obs[nO]).n = n := fun h => by
          have h1 : (absR s').objs = (absR t.s).objs ++ [zeroVs n] := congrArg MSt.objs hab
          have h2 : (absR s').objs[nO]? = some s'.obs[nO].fields := by show (s'.obs.map Ob.fields)[nO]? = _; rw [List.getElem?_map, List.getElem?_eq_getElem h]; rfl
          rw [h1, List.getElem?_append_right (by rw [HNO.out]; exact Nat.le_refl _), HNO.out, Nat.sub_self] at h2
          have h4 : zeroVs n = s'.obs[nO].fields := by simpa using h2
          have h5 := rm_len ((rI_flat (hS4.get 0 rfl)).get 2 rfl) (List.getElem_mem h)
          have h6 : (zeroVs n).length = n := by simp [zeroVs]
          have h7 := congrArg List.length h4
          show (s'.obs[nO]).n = n
          have h8 : s'.obs[nO].fields.length = s'.obs[nO].n := h5
          omega
        have CS := hide (rrStandI hS4 (by show t.ws.length ≤ 256; have := HWLt.out; omega) nO p n (by show nO < s'.obs.length; omega) (by show s'.obs.length ≤ 600; have := HNO9.out; omega) (hmn (by omega)) (by have := HN4.out; omega) (by show p + 1 + n ≤ t.ws.length; have := HFITt.out; omega))
        have p1' : wc.cell? ⟨Bm, 1, none⟩ = some (.slice s'.Ao (nO + 1) s'.co) := by rw [← hlen]; exact p1
        have w9 : IntKind.i64.wrap (((nO + 1 : Nat) : Int) - 1) = (nO : Int) := by rw [wrap64 _ (by omega) (by have := HNO9.out; omega)]; omega
        have HEQ := hide (show ((({ t with s := s' } : RrT).w_ (rstand t.ws (nO : Int) p (1 + n)))).a = ⟨⟨(absR t.s).regs.set dto.toNat (true, (nO : Int)), (absR t.s).objs ++ [zeroVs n]⟩, rstand t.ws (nO : Int) p (1 + n), t.times⟩ from by rw [← hab]; rfl)
        obtain ⟨y1, y2, y3, -⟩ := HS4.out.rules 2 (g := gd + 1) (t := 41) rfl
        obtain ⟨v1, v2, v3, -⟩ := HS4.out.rules 3 (g := b) (t := 41) rfl
        have v5 := (v1 0).trans (show _ = some (.int .i64 0) from rfl)
        have v6 := (v1 1).trans (show _ = some (.bool false) from rfl)
        have v7 := (v1 2).trans (show _ = some (.int .i64 0) from rfl)
        obtain ⟨l1, -, l3, -⟩ := HS4.out.rules 1 (g := gd) (t := 39) rfl
        have l5 := (l1 0).trans (show _ = some (.int .i64 1) from rfl)
        clear l1 v1
        clear hS4 hab hlen hmn p1
        have hno5 : nO ≤ 500 := HNO9.out
        go_wp2_with fail
        refine CS.out.mono ?_
        rintro e w5 ⟨⟨u, rfl⟩, hS5⟩
        have HS5 := hide hS5
        clear hS5 CS HS4 y2 y3 v2 v3 v5 v6 v7 l3 l5 p0 p1' p2 p3
        obtain ⟨y1, y2, y3, -⟩ := HS5.out.rules 2 (g := gd + 1) (t := 41) rfl
        obtain ⟨v1, v2, v3, -⟩ := HS5.out.rules 3 (g := b) (t := 41) rfl
        have v5 := (v1 0).trans (show _ = some (.int .i64 0) from rfl)
        have v6 := (v1 1).trans (show _ = some (.bool false) from rfl)
        have v7 := (v1 2).trans (show _ = some (.int .i64 0) from rfl)
        obtain ⟨l1, -, l3, -⟩ := HS5.out.rules 1 (g := gd) (t := 39) rfl
        have l5 := (l1 0).trans (show _ = some (.int .i64 1) from rfl)
        clear l1 v1
        go_wp2_with fail
        have hF := ((HS5.out.set_ 2 (g := gd + 1) (t := 41) rfl 0 (.int .i64 0)).set_ 2 (g := gd + 1) (t := 41) rfl 1 (.bool false)).set_ 2 (g := gd + 1) (t := 41) rfl 2 (.int .i64 0)
        obtain ⟨z1, -, -, -⟩ := hF.rules 2 (g := gd + 1) (t := 41) rfl
        refine bodyPost_ret (v := .agg #[.int .i64 0, .bool false, .int .i64 0]) (by simp [results, Try.results69, go_sem, z1]) rfl ⟨rfl, _, HEQ.out, HGN.out, hF.sub (List.sublist_append_left [_] [_, _, _])⟩
  · have t1 : decide (r1 < 0) = true := by simp; omega
    rw [if_neg hp]
    have CRM := hide (fun (X : World) (hX : (rI Br Bm c t).P X) => HRM.out X t (by have := HWLt.out; have := HW256.out; omega) hX)
    rw [HR1.out] at CRM
    obtain ⟨t2, ht2⟩ : ∃ q, (t.w_ (t.a.clear c).ws).tm (t.times + 1) = q := ⟨_, rfl⟩
    have HT2 := hide (show t2.s = t.s ∧ t2.ws = (t.a.clear c).ws ∧ t2.times = t.times + 1 from by rw [← ht2]; exact ⟨rfl, rfl, rfl⟩)
    rw [ht2] at HCL HCLA
    have CRM2 := hide (fun (X : World) (hX : (rI Br Bm c t2).P X) => HRM.out X t2 (by rw [HT2.out.2.1]; have := HWC.out; have := HW256.out; omega) hX)
    rw [HCLA.out, HR2.out] at CRM2
    have HOKt2 := hide (show ROk t2.s from by rw [HT2.out.1]; exact HOKt.out)
    have HW0t2 := hide (show rWrong ⟨1, dto, dfr, dat, (n : Int)⟩ (absR t2.s) = 0 from by rw [HT2.out.1]; exact HW0t.out)
    have HSTt2 := hide (show stepK ⟨1, dto, dfr, dat, (n : Int)⟩ (absR t2.s) = (⟨0, false, 0⟩, ⟨(absR t.s).regs.set dto.toNat (true, (nO : Int)), (absR t.s).objs ++ [zeroVs n]⟩) from by rw [HT2.out.1]; exact HSTt.out)
    have HWLt2 := hide (show t2.ws.length ≤ 256 from by rw [HT2.out.2.1]; have := HWC.out; have := HW256.out; omega)
    rw [← HT2.out.2.1, ← HT2.out.2.2]
    clear ht2
    by_cases hq : 0 ≤ r2
    · rw [if_pos hq]
      obtain ⟨p, rfl⟩ := int_nat hq
      rw [Int.toNat_natCast]
      have HFITt2 := hide (show p + 1 + n ≤ t2.ws.length from by have h1 := HFT2.out hq; rw [HT2.out.2.1]; have h2 := HWC.out; omega)
      have hp256 : p ≤ 256 := by have := HFITt2.out; have := HWLt2.out; omega
      have t2' : decide ((p : Int) < 0) = false := by simp
      clear HFT1 HFT2 HRM hp
      unfold OutV.val
      dsimp only
      go_enter Try.func69, Try.ntmps69
      go_wp2_with fail
      go_region_held3 (fun w' => w'.cell? ⟨Br, 0, none⟩ = some (.pointer (some ⟨Bm, 0, none⟩)) ∧ w'.cell? ⟨gd, 0, none⟩ = some (.int .i64 1) ∧ w'.cell? ⟨gd, 1, none⟩ = some (.int .i64 dto) ∧ w'.cell? ⟨gd, 2, none⟩ = some (.int .i64 dfr) ∧ w'.cell? ⟨gd, 3, none⟩ = some (.int .i64 dat) ∧ w'.cell? ⟨gd, 4, none⟩ = some (.int .i64 (n : Int))) (first | go_keep | (simp only [World.cell?_drew]; assumption) | assumption)
        ((go_at_call 78; (with_reducible refine HCW.out.mono ?_); rintro e w2 ⟨rfl, hb2⟩; have hS2 := HS0.out.drew.below hb2; obtain ⟨q0, qm, q5, -⟩ := rI_cells hS2 (k := 0) rfl; obtain ⟨qa, -, qc, -⟩ := hS2.rules 1 (g := gd) (t := 39) rfl; have q6 := (qa 0).trans (show _ = some (.int .i64 1) from rfl); have q7 := (qa 1).trans (show _ = some (.int .i64 dto) from rfl); have q8 := (qa 2).trans (show _ = some (.int .i64 dfr) from rfl); have q9 := (qa 3).trans (show _ = some (.int .i64 dat) from rfl); have qx := (qa 4).trans (show _ = some (.int .i64 (n : Int)) from rfl); have HS2 := hide hS2; clear hS2 hb2 qa))
      all_goals
        go_wp2_with fail
        refine (CRM.out _ (HS2.out.get 0 rfl)).mono ?_
        rintro e w2b ⟨rfl, rfl⟩
        have HCL2 := hide (HCL.out _ HS2.out)
        clear CRM HCL
        go_wp2_with fail
        refine HCL2.out.mono ?_
        rintro e w4 ⟨⟨u, rfl⟩, hS4⟩
        have HS4c := hide hS4
        obtain ⟨qa, -, qc', -⟩ := hS4.rules 1 (g := gd) (t := 39) rfl
        have qx' := (qa 4).trans (show _ = some (.int .i64 (n : Int)) from rfl)
        have qk' := (qa 0).trans (show _ = some (.int .i64 1) from rfl)
        have qt' := (qa 1).trans (show _ = some (.int .i64 dto) from rfl)
        have qf' := (qa 2).trans (show _ = some (.int .i64 dfr) from rfl)
        have qg' := (qa 3).trans (show _ = some (.int .i64 dat) from rfl)
        obtain ⟨qb', -, qd', -⟩ := rI_cells hS4 (k := 0) rfl
        clear hS4 HCL2 qa HS2 q0 qm q5 qc q6 q7 q8 q9 qx
        go_wp2_with fail
        refine (CRM2.out _ (HS4c.out.get 0 rfl)).mono ?_
        rintro e w4b ⟨rfl, rfl⟩
        clear CRM2
        go_wp2_with fail
        obtain ⟨gx, hgx⟩ : ∃ x, w4b.heap.size = x := ⟨_, rfl⟩
        have nx1 : Br ≠ gx := by have h1 := (rI_cells HS4c.out (k := 0) rfl).2.2.1; omega
        have nx2 : gx ≠ Br := fun e => nx1 e.symm
        have nx3 : gd ≠ gx := by have h1 := HS4c.out.hi 1 rfl gd rfl; omega
        have nx4 : gx ≠ gd := fun e => nx3 e.symm
        have CD1 := hide (rrDoI HS4c.out.drew HOKt2.out ⟨1, dto, dfr, dat, (n : Int)⟩ HW0t2.out)
        have CD2 := hide (rrDoI ((HS4c.out.blkAt 41 #[.int .i64 0, .bool false, .int .i64 0] hgx).drew) HOKt2.out ⟨1, dto, dfr, dat, (n : Int)⟩ HW0t2.out)
        rw [HSTt2.out] at CD1 CD2
        unfold DoV.cells OutV.val at CD1 CD2
        dsimp only at CD1 CD2
        go_cut [7] from 44 to 50 (fun s7 wx => ∃ (b : Nat) (s' : RMem), s7 = .pointer (some ⟨b, 0, none⟩) ∧ Hid (absR s' = ⟨(absR t.s).regs.set dto.toNat (true, (nO : Int)), (absR t.s).objs ++ [zeroVs n]⟩) ∧ Hid (s'.gone.length = s'.obs.length) ∧ Sep (rI Br Bm c t).fp w wx [rI Br Bm c { t2 with s := s' }, blkI gd 39 #[.int .i64 1, .int .i64 dto, .int .i64 dfr, .int .i64 dat, .int .i64 (n : Int)], blkI (gd + 1) 41 #[.int .i64 0, .bool false, .int .i64 0], blkI b 41 #[.int .i64 0, .bool false, .int .i64 0]])
        case first =>
          go_region_held3 (fun w' => w'.cell? ⟨Br, 0, none⟩ = some (.pointer (some ⟨Bm, 0, none⟩)) ∧ w'.cell? ⟨gd, 0, none⟩ = some (.int .i64 1) ∧ w'.cell? ⟨gd, 1, none⟩ = some (.int .i64 dto) ∧ w'.cell? ⟨gd, 2, none⟩ = some (.int .i64 dfr) ∧ w'.cell? ⟨gd, 3, none⟩ = some (.int .i64 dat) ∧ w'.cell? ⟨gd, 4, none⟩ = some (.int .i64 (n : Int))) (first | go_keep | (simp only [World.cell?_drew]; assumption) | (simp (config := { maxDischargeDepth := 8 }) [*, World.cell?_alloc_some]; done) | assumption)
            (((go_at_call 81); first
              | ((with_reducible refine CD1.out.mono ?_); rintro e w3 ⟨s', rfl, hab, hgn, hS3⟩; obtain ⟨m0, mm, m5, -⟩ := rI_cells hS3 (k := 0) rfl; obtain ⟨ma, -, mc, -⟩ := hS3.rules 1 (g := gd) (t := 39) rfl; have m6 := (ma 0).trans (show _ = some (.int .i64 1) from rfl); have m7 := (ma 1).trans (show _ = some (.int .i64 dto) from rfl); have m8 := (ma 2).trans (show _ = some (.int .i64 dfr) from rfl); have m9 := (ma 3).trans (show _ = some (.int .i64 dat) from rfl); have mx := (ma 4).trans (show _ = some (.int .i64 (n : Int)) from rfl); have HS3 := hide (hS3.blkAt 41 #[.int .i64 0, .bool false, .int .i64 0] (g := w3.heap.size) rfl); have HAB := hide hab; have HGN := hide hgn; have HKK := hide True.intro; clear hab hgn hS3 ma)
              | ((with_reducible refine CD2.out.mono ?_); rintro e w3 ⟨s', rfl, hab, hgn, hS3⟩; obtain ⟨m0, mm, m5, -⟩ := rI_cells hS3 (k := 0) rfl; obtain ⟨ma, -, mc, -⟩ := hS3.rules 1 (g := gd) (t := 39) rfl; have m6 := (ma 0).trans (show _ = some (.int .i64 1) from rfl); have m7 := (ma 1).trans (show _ = some (.int .i64 dto) from rfl); have m8 := (ma 2).trans (show _ = some (.int .i64 dfr) from rfl); have m9 := (ma 3).trans (show _ = some (.int .i64 dat) from rfl); have mx := (ma 4).trans (show _ = some (.int .i64 (n : Int)) from rfl); obtain ⟨o1, o2, o3, -⟩ := hS3.rules 3 (g := gx) (t := 41) rfl; have HS3 := hide hS3; have HAB := hide hab; have HGN := hide hgn; clear hab hgn hS3 ma)))
          all_goals
            go_wp2_with fail
            go_meet
            case rel => first
              | (have hk := HKK.out
                 exact ⟨w3.heap.size, s', rfl, HAB, HGN, HS3.out⟩)
              | exact ⟨gx, s', rfl, HAB, HGN, ((HS3.out.set_ 3 (g := gx) (t := 41) rfl 0 (.int .i64 0)).set_ 3 (g := gx) (t := 41) rfl 1 (.bool false)).set_ 3 (g := gx) (t := 41) rfl 2 (.int .i64 0)⟩
        case rest =>
          obtain ⟨b, s', rfl, HAB, HGN, hS4⟩ := hcut
          clear CD1 CD2
          have HS4 := hide hS4
          obtain ⟨p0, p1, p2, p3⟩ := rI_cells hS4 (k := 0) rfl
          have hab := HAB.out
          have hlen : s'.obs.length = nO + 1 := by
            have h1 := congrArg (fun σ : MSt => σ.objs.length) hab
            have h2 : (absR s').objs.length = s'.obs.length := List.length_map ..
            have h3 := HNO.out
            simp only [List.length_append, List.length_singleton] at h1
            omega
          have hmn : ∀ (h : nO < s'.obs.length), (s'.obs[nO]).n = n := fun h => by
            have h1 : (absR s').objs = (absR t.s).objs ++ [zeroVs n] := congrArg MSt.objs hab
            have h2 : (absR s').objs[nO]? = some s'.obs[nO].fields := by show (s'.obs.map Ob.fields)[nO]? = _; rw [List.getElem?_map, List.getElem?_eq_getElem h]; rfl
            rw [h1, List.getElem?_append_right (by rw [HNO.out]; exact Nat.le_refl _), HNO.out, Nat.sub_self] at h2
            have h4 : zeroVs n = s'.obs[nO].fields := by simpa using h2
            have h5 := rm_len ((rI_flat (hS4.get 0 rfl)).get 2 rfl) (List.getElem_mem h)
            have h6 : (zeroVs n).length = n := by simp [zeroVs]
            have h7 := congrArg List.length h4
            show (s'.obs[nO]).n = n
            have h8 : s'.obs[nO].fields.length = s'.obs[nO].n := h5
            omega
          have CS := hide (rrStandI hS4 (by show t2.ws.length ≤ 256; have := HWLt2.out; omega) nO p n (by show nO < s'.obs.length; omega) (by show s'.obs.length ≤ 600; have := HNO9.out; omega) (hmn (by omega)) (by have := HN4.out; omega) (by show p + 1 + n ≤ t2.ws.length; have := HFITt2.out; omega))
          have p1' : wc.cell? ⟨Bm, 1, none⟩ = some (.slice s'.Ao (nO + 1) s'.co) := by rw [← hlen]; exact p1
          have w9 : IntKind.i64.wrap (((nO + 1 : Nat) : Int) - 1) = (nO : Int) := by rw [wrap64 _ (by omega) (by have := HNO9.out; omega)]; omega
          have HEQ := hide (show ((({ t2 with s := s' } : RrT).w_ (rstand t2.ws (nO : Int) p (1 + n)))).a = ⟨⟨(absR t.s).regs.set dto.toNat (true, (nO : Int)), (absR t.s).objs ++ [zeroVs n]⟩, rstand t2.ws (nO : Int) p (1 + n), t2.times⟩ from by rw [← hab]; rfl)
          obtain ⟨y1, y2, y3, -⟩ := HS4.out.rules 2 (g := gd + 1) (t := 41) rfl
          obtain ⟨v1, v2, v3, -⟩ := HS4.out.rules 3 (g := b) (t := 41) rfl
          have v5 := (v1 0).trans (show _ = some (.int .i64 0) from rfl)
          have v6 := (v1 1).trans (show _ = some (.bool false) from rfl)
          have v7 := (v1 2).trans (show _ = some (.int .i64 0) from rfl)
          obtain ⟨l1, -, l3, -⟩ := HS4.out.rules 1 (g := gd) (t := 39) rfl
          have l5 := (l1 0).trans (show _ = some (.int .i64 1) from rfl)
          clear l1 v1
          clear hS4 hab hlen hmn p1
          have hno5 : nO ≤ 500 := HNO9.out
          go_wp2_with fail
          refine CS.out.mono ?_
          rintro e w5 ⟨⟨u, rfl⟩, hS5⟩
          have HS5 := hide hS5
          clear hS5 CS HS4 y2 y3 v2 v3 v5 v6 v7 l3 l5 p0 p1' p2 p3
          obtain ⟨y1, y2, y3, -⟩ := HS5.out.rules 2 (g := gd + 1) (t := 41) rfl
          obtain ⟨v1, v2, v3, -⟩ := HS5.out.rules 3 (g := b) (t := 41) rfl
          have v5 := (v1 0).trans (show _ = some (.int .i64 0) from rfl)
          have v6 := (v1 1).trans (show _ = some (.bool false) from rfl)
          have v7 := (v1 2).trans (show _ = some (.int .i64 0) from rfl)
          obtain ⟨l1, -, l3, -⟩ := HS5.out.rules 1 (g := gd) (t := 39) rfl
          have l5 := (l1 0).trans (show _ = some (.int .i64 1) from rfl)
          clear l1 v1
          go_wp2_with fail
          have hF := ((HS5.out.set_ 2 (g := gd + 1) (t := 41) rfl 0 (.int .i64 0)).set_ 2 (g := gd + 1) (t := 41) rfl 1 (.bool false)).set_ 2 (g := gd + 1) (t := 41) rfl 2 (.int .i64 0)
          obtain ⟨z1, -, -, -⟩ := hF.rules 2 (g := gd + 1) (t := 41) rfl
          refine bodyPost_ret (v := .agg #[.int .i64 0, .bool false, .int .i64 0]) (by simp [results, Try.results69, go_sem, z1]) rfl ⟨rfl, _, HEQ.out, HGN.out, hF.sub (List.sublist_append_left [_] [_, _, _])⟩
    · rw [if_neg hq]
      have t2' : decide (r2 < 0) = true := by simp; omega
      have HGN := hide (show t2.s.gone.length = t2.s.obs.length from HOKt2.out.k)
      clear HFT1 HFT2 HRM hp hq
      unfold OutV.val
      dsimp only
      go_enter Try.func69, Try.ntmps69
      go_wp2_with fail
      go_region_held3 (fun w' => w'.cell? ⟨Br, 0, none⟩ = some (.pointer (some ⟨Bm, 0, none⟩)) ∧ w'.cell? ⟨gd, 0, none⟩ = some (.int .i64 1) ∧ w'.cell? ⟨gd, 1, none⟩ = some (.int .i64 dto) ∧ w'.cell? ⟨gd, 2, none⟩ = some (.int .i64 dfr) ∧ w'.cell? ⟨gd, 3, none⟩ = some (.int .i64 dat) ∧ w'.cell? ⟨gd, 4, none⟩ = some (.int .i64 (n : Int))) (first | go_keep | (simp only [World.cell?_drew]; assumption) | assumption)
        ((go_at_call 78; (with_reducible refine HCW.out.mono ?_); rintro e w2 ⟨rfl, hb2⟩; have hS2 := HS0.out.drew.below hb2; obtain ⟨q0, qm, q5, -⟩ := rI_cells hS2 (k := 0) rfl; obtain ⟨qa, -, qc, -⟩ := hS2.rules 1 (g := gd) (t := 39) rfl; have q6 := (qa 0).trans (show _ = some (.int .i64 1) from rfl); have q7 := (qa 1).trans (show _ = some (.int .i64 dto) from rfl); have q8 := (qa 2).trans (show _ = some (.int .i64 dfr) from rfl); have q9 := (qa 3).trans (show _ = some (.int .i64 dat) from rfl); have qx := (qa 4).trans (show _ = some (.int .i64 (n : Int)) from rfl); have HS2 := hide hS2; clear hS2 hb2 qa))
      all_goals
        go_wp2_with fail
        refine (CRM.out _ (HS2.out.get 0 rfl)).mono ?_
        rintro e w2b ⟨rfl, rfl⟩
        have HCL2 := hide (HCL.out _ HS2.out)
        clear CRM HCL
        go_wp2_with fail
        refine HCL2.out.mono ?_
        rintro e w4 ⟨⟨u, rfl⟩, hS4⟩
        have HS4c := hide hS4
        obtain ⟨qa, -, qc', -⟩ := hS4.rules 1 (g := gd) (t := 39) rfl
        have qx' := (qa 4).trans (show _ = some (.int .i64 (n : Int)) from rfl)
        obtain ⟨y1, y2, y3, -⟩ := hS4.rules 2 (g := gd + 1) (t := 41) rfl
        clear hS4 HCL2 qa HS2 q0 qm q5 qc q6 q7 q8 q9 qx
        go_wp2_with fail
        refine (CRM2.out _ (HS4c.out.get 0 rfl)).mono ?_
        rintro e w4b ⟨rfl, rfl⟩
        clear CRM2
        go_wp2_with fail
        have hF := ((HS4c.out.set_ 2 (g := gd + 1) (t := 41) rfl 0 (.int .i64 6)).set_ 2 (g := gd + 1) (t := 41) rfl 1 (.bool false)).set_ 2 (g := gd + 1) (t := 41) rfl 2 (.int .i64 0)
        obtain ⟨z1, -, -, -⟩ := hF.rules 2 (g := gd + 1) (t := 41) rfl
        refine bodyPost_ret (v := .agg #[.int .i64 6, .bool false, .int .i64 0]) (by simp [results, Try.results69, go_sem, z1]) rfl ⟨rfl, t2, HCLA.out, HGN.out, hF.sub (List.sublist_append_left [_] [_, _])⟩
end Go.Proofs.Ytjphckfbbiehdaa

namespace Go.Proofs.Ytjphckfbbiehdaa
open Go.RowKit

theorem rrStep_any {Br Bm : Nat} {c : Int} {t : RrT} {w : World} (hP : (rI Br Bm c t).P w) (ok : ROk t.s) (hc : c = 1 ∨ c = 2 ∨ c = 3) {W : Nat} {a : RnA} (h : RrSim W a t.a) (hW : W ≤ 256) (ht0 : 0 ≤ t.times) (ht1 : t.times ≤ 100000) (d : DoV) : RStepOk Br Bm c t w d := by
  by_cases h8 : d.k = 8
  · exact rrStep_work hP ok hc h hW ht0 ht1 d h8
  · rcases Int.decEq (rWrong d (absR t.s)) 0 with hw | hw
    · exact rrStep_bad hP ok d h8 hw
    · by_cases h1 : d.k = 1
      · exact rrStep_new hP ok hc h hW ht0 ht1 d h1 hw
      · exact rrStep_other hP ok d h8 h1 hw
theorem rrRun_at (c : Int) (ds : List DoV) (r : RrA) (k : Nat) (hk : k < ds.length) : rrRun c (ds.take (k + 1)) r = ((rrRun c (ds.take k) r).1 ++ [(rrStep c ds[k] (rrRun c (ds.take k) r).2).1], (rrStep c ds[k] (rrRun c (ds.take k) r).2).2) := by
  rw [List.take_succ_eq_append_getElem hk, rrRun_snoc]

set_option maxRecDepth 100000 in
set_option maxHeartbeats 64000000 in
theorem refRun_any (w : World) (c : Int) (W : Nat) (hc : c = 1 ∨ c = 2 ∨ c = 3) (hW1 : 1 ≤ W) (hW : W ≤ 256) (Ad : Option Addr) (nd cd : Nat) (ds : List DoV) (hnd : nd ≤ 100) (hD : Rd w (fun _ => True) 5 Ad nd (dosV ds)) :
    Calls Try.prog 29 #[.int .i64 c, .int .i64 W, .slice Ad nd cd] w fun e w' => ∃ A c' B1 n1 c1 B2 n2 c2, e = .returned (.agg #[.slice A nd c', .slice B1 n1 c1, .slice B2 n2 c2, .int .i64 (rrRun c ds (rr0 W)).2.times]) ∧ Below w.heap.size w w' ∧ Rd w' (fun g => w.heap.size ≤ g) 3 A nd (outsV (rrRun c ds (rr0 W)).1) ∧ GraphRd w' (fun g => w.heap.size ≤ g) (.agg #[.slice B1 n1 c1, .slice B2 n2 c2]) (renumF (rrRun c ds (rr0 W)).2.σ.objs (order (rrRun c ds (rr0 W)).2.σ.objs (rrRun c ds (rr0 W)).2.σ.regs)) ((rrRun c ds (rr0 W)).2.σ.regs.map (turnL (order (rrRun c ds (rr0 W)).2.σ.objs (rrRun c ds (rr0 W)).2.σ.regs))) := by
  have HDL := hide (show ds.length = nd by have := hD.1; rw [dosV_length] at this; omega)
  have HAT := hide (fun (k : Nat) (hk : k ≤ ds.length) => (show RrSim W (rnRun c W (ds.take k) rn0).2 (rrRun c (ds.take k) (rr0 W)).2 ∧ (rrRun c (ds.take k) (rr0 W)).2.σ.objs.length ≤ 400 ∧ 0 ≤ (rrRun c (ds.take k) (rr0 W)).2.times ∧ (rrRun c (ds.take k) (rr0 W)).2.times ≤ 400 from by
    obtain ⟨_, h1⟩ := rr_run hc W (ds.take k)
    obtain ⟨h2, h3, h4, h5⟩ := rn_step_at c (show (0 : Int) ≤ W by omega) ds (by have := HDL.out; omega) k hk
    exact ⟨h1, by rw [← h1.sim.n]; exact h3, by rw [← h1.times]; exact h4, by rw [← h1.times]; exact h5⟩))
  have HC := hide hc
  obtain ⟨g, hg⟩ : ∃ g, w.heap.size = g := ⟨_, rfl⟩
  have hS0 := (Sep.nil No w).blkAt 29 #[.slice none 0 0, .slice none 0 0, .slice none 0 0, .int .i64 0] hg
  have CN := newMem_any (w.alloc (.cells #[.slice none 0 0, .slice none 0 0, .slice none 0 0, .int .i64 0] 29)) none none 0 0 0 0 [] [] [] rfl ⟨Rd.nil, by simp⟩ Rd.nil (by omega) (by omega) (by simp)
  have HCN := hide CN
  have HS0 := hide hS0
  have HNW := hide hg
  have hWi : (W : Int) ≤ 256 := by omega
  clear hS0 CN hc
  go_enter Try.func29, Try.ntmps29
  go_wp2_with fail
  refine HCN.out.mono ?_
  rintro e w1 ⟨Bm, s0, rfl, hab, hgn, hP⟩
  obtain ⟨Br, hBr⟩ : ∃ x, w1.heap.size = x := ⟨_, rfl⟩
  have hS1 := (HS0.out.consNew hP.below_ _ (hP.get 0 rfl) (fun g hg => (hP.lo 0 rfl g hg).resolve_left (fun h => h))).nilRow0 3 1
  have hS2 := (hS1.blkAt 162 #[.pointer (some ⟨Bm, 0, none⟩), .slice none 0 0, .int .i64 c, .int .i64 0] hBr).perm (List.perm_append_comm (l₂ := [_]))
  have HS2 := hide (show Sep No w _ [blkI Br 162 #[.pointer (some ⟨Bm, 0, none⟩), .slice none 0 0, .int .i64 c, .int .i64 0], rowI 3 1 none 0 0 (ints (List.replicate 0 (-1))), rmI Bm s0, blkI g 29 #[.slice none 0 0, .slice none 0 0, .slice none 0 0, .int .i64 0]] from hS2)
  have HAB := hide hab
  have HGN := hide hgn
  clear hS1 hS2 hP hab hgn HS0 HCN
  go_wp2_with fail
  go_loopw [8] (fun i wr => ∃ (k : Nat) (A : Option Addr) (ca : Nat), k ≤ W ∧ i = .int .i64 k ∧ Sep No w wr [blkI Br 162 #[.pointer (some ⟨Bm, 0, none⟩), .slice A k ca, .int .i64 c, .int .i64 0], rowI 3 1 A k ca (ints (List.replicate k (-1))), rmI Bm s0, blkI g 29 #[.slice none 0 0, .slice none 0 0, .slice none 0 0, .int .i64 0]]) (fun i _ => W - (intOf i).toNat)
  case atStart => exact ⟨0, none, 0, by omega, rfl, HS2.out⟩
  case round =>
    clear HS2
    obtain ⟨k, A, ca, hk, rfl, hS⟩ := hrel
    obtain ⟨x1, x2, x3, -⟩ := hS.rules 0 (g := Br) (t := 162) rfl
    have x5 := (x1 1).trans (show _ = some (.slice A k ca) from rfl)
    have HS := hide hS
    by_cases hlt : k < W
    · clear hS x1
      go_wp2_with (first
        | (at_builtin
           refine wpList_app1 (cs := #[.int .i64 (-1)]) rfl (.tmp 26) (.tmp 27) 35 rfl (F := No) (W := w) sInt (items := _ :: _ :: _ :: _) HS.out 1 (n := k) rfl rfl rfl (by simp) rfl rfl (by omega) ?_
           intro A6 c6 w6 hS6 hC6
           obtain ⟨u1, u2, u3, -⟩ := hS6.rules 0 (g := Br) (t := 162) rfl
           clear hC6))
      have HS7 := hide (hS6.set_ 0 (g := Br) (t := 162) rfl 1 (.slice A6 (k + 1) c6))
      clear hS6 u1
      go_roundw
      case rel => exact ⟨k + 1, A6, c6, by omega, by go_num, by
        rw [List.replicate_succ', show ints (List.replicate k (-1) ++ [-1]) = ints (List.replicate k (-1)) ++ [.int .i64 (-1)] from by simp [ints]]
        exact HS7.out⟩
      case measure => simp [intOf]; omega
    · obtain rfl : k = W := by omega
      obtain ⟨gw, hgw⟩ := hown_addr (show wr.ownsRow 0 3 1 (.slice A k ca) k _ from hS.get 1 rfl) (by omega)
      subst hgw
      obtain ⟨t0, ht0⟩ : ∃ q : RrT, (⟨s0, gw, ca, List.replicate k (-1), 0⟩ : RrT) = q := ⟨_, rfl⟩
      have HA0 := hide (show t0.a = (rrRun c (ds.take 0) (rr0 k)).2 from by
        rw [← ht0]
        show (⟨absR s0, List.replicate k (-1), 0⟩ : RrA) = rr0 k
        rw [HAB.out]
        rfl)
      have HG0 := hide (show t0.s.gone.length = t0.s.obs.length from by
        rw [← ht0]
        show s0.gone.length = s0.obs.length
        rw [HGN.out]
        have h1 : (absR s0).objs.length = 0 := by rw [HAB.out]; rfl
        have h2 : (absR s0).objs.length = s0.obs.length := List.length_map ..
        rw [List.length_replicate]
        omega)
      obtain ⟨gO, hgO⟩ : ∃ x, wr.heap.size = x := ⟨_, rfl⟩
      have hS3 : Sep No w wr [rI Br Bm c t0, blkI g 29 #[.slice none 0 0, .slice none 0 0, .slice none 0 0, .int .i64 0]] := by
        rw [← ht0]
        have h1 : Sep No w wr (rrL Br Bm c ⟨s0, gw, ca, List.replicate k (-1), 0⟩ ++ [blkI g 29 #[.slice none 0 0, .slice none 0 0, .slice none 0 0, .int .i64 0]]) := by
          unfold rrL
          dsimp only
          rw [List.length_replicate]
          exact hS
        exact h1.join
      have HS4 := hide ((hS3.blkAt 29 #[.slice none 0 0, .slice none 0 0, .slice none 0 0, .int .i64 0] hgO).nilRow 41 3)
      clear hS hS3 x1 x2 x3 x5 HS ht0 HAB HGN
      go_wp2_with fail
      go_loopw [34] (fun i wr => ∃ (j : Nat) (A : Option Addr) (c' : Nat) (t : RrT), j ≤ nd ∧ i = .int .i64 j ∧ Hid (t.a = (rrRun c (ds.take j) (rr0 k)).2) ∧ Hid (t.s.gone.length = t.s.obs.length) ∧
        Sep No w wr [rI Br Bm c t, blkI g 29 #[.slice none 0 0, .slice none 0 0, .slice none 0 0, .int .i64 0], blkI gO 29 #[.slice A j c', .slice none 0 0, .slice none 0 0, .int .i64 0], rowI 41 3 A j c' (outsV (rrRun c (ds.take j) (rr0 k)).1)]) (fun i _ => nd - (intOf i).toNat)
      case atStart => exact ⟨0, none, 0, t0, by omega, rfl, HA0, HG0, HS4.out⟩
      case round =>
        clear HS4 HA0 HG0
        obtain ⟨j, A, c', t, hj, rfl, HA, HG, hS⟩ := hrel
        obtain ⟨r1, r2, r3, r4⟩ := HAT.out j (by have := HDL.out; omega)
        rw [← HA.out] at r1 r2 r3 r4
        have hob : t.a.σ.objs.length = t.s.obs.length := List.length_map ..
        have ok : ROk t.s := ⟨r1.mok, by omega, HG.out⟩
        by_cases hlt2 : j < nd
        · have hjl : j < ds.length := by rw [HDL.out]; exact hlt2
          obtain ⟨v0, v1, v2, v3, v4⟩ := dosV_at ds j hjl
          obtain ⟨ad, hA, _, had, hcc, hdd⟩ := (hD.below hS.below_).atN hlt2
          have e0 := hcc _ v0
          have e1 := hdd 0 _ v1
          have e2 := hdd 1 _ v2
          have e3 := hdd 2 _ v3
          have e4 := hdd 3 _ v4
          have hrs := rrRun_at c ds (rr0 k) j hjl
          rw [← HA.out] at hrs
          obtain ⟨d, hd'⟩ : ∃ d, ds[j] = d := ⟨_, rfl⟩
          rw [hd'] at e0 e1 e2 e3 e4 hrs
          obtain ⟨gd, hgd⟩ : ∃ x, wr.heap.size = x := ⟨_, rfl⟩
          have hS2 := hS.blkAt 39 d.cells hgd
          have CST := rrStep_any (hS2.drew.get 0 rfl) ok HC.out r1 hW r3 (by have h9 : t.a.times = t.times := rfl; omega) d
          unfold RStepOk at CST
          obtain ⟨p, hp⟩ : ∃ p, rrStep c d t.a = p := ⟨_, rfl⟩
          rw [hp] at CST hrs
          obtain ⟨⟨oc, orf, on⟩, r'⟩ := p
          unfold OutV.val at CST
          dsimp only at CST hrs
          have HRS := hide hrs
          obtain ⟨x1, x2, x3, -⟩ := hS2.rules 2 (g := gO) (t := 29) rfl
          have x5 := (x1 0).trans (show _ = some (.slice A j c') from rfl)
          obtain ⟨z1, z2, z3, -⟩ := hS2.rules 4 (g := gd) (t := 39) rfl
          obtain ⟨dk, dto, dfr, dat, dn⟩ := d
          unfold DoV.cells at CST hS2 x2 x3 x5 z1 z2 z3
          dsimp only at CST hS2 e0 e1 e2 e3 e4 x2 x3 x5 z1 z2 z3
          have z5 := (z1 0).trans (show _ = some (.int .i64 dk) from rfl)
          have z6 := (z1 1).trans (show _ = some (.int .i64 dto) from rfl)
          have z7 := (z1 2).trans (show _ = some (.int .i64 dfr) from rfl)
          have z8 := (z1 3).trans (show _ = some (.int .i64 dat) from rfl)
          have z9 := (z1 4).trans (show _ = some (.int .i64 dn) from rfl)
          have HCST := hide CST
          have HS2 := hide hS2
          have hne : gO ≠ gd := by have := hS.hi 2 rfl gO rfl; omega
          have hne2 : gd ≠ gO := fun e => hne e.symm
          subst hA
          clear hcc hdd v0 v1 v2 v3 v4 hrs hd' hS2 hS r1 r2 r3 r4 hob ok CST hp x1 z1 HA HG
          go_wp2_with fail
          go_region_law (first
            | (try go_simp
               go_at_call 69
               (with_reducible refine HCST.out.mono ?_)
               rintro e w3 ⟨rfl, t', hta, hgn', hP3⟩
               (have hS3 := HS2.out.drew.call 0 rfl hP3)
               obtain ⟨y1, y2, y3, -⟩ := hS3.rules 2 (g := gO) (t := 29) rfl
               (have y5 := (y1 0).trans (show _ = some (.slice A j c') from rfl))
               (have HS3 := hide hS3)
               (have HTA := hide hta)
               (have HGN' := hide hgn')
               (have y6 := (World.cell?_alloc_lt w3 (.cells #[.int .i64 oc, .bool orf, .int .i64 on] 41) _ y3).trans y5)
               clear hS3 hP3 hta hgn' y1)
            | (refine step_app1 (cs := #[.int .i64 oc, .bool orf, .int .i64 on]) rfl (.tmp 39) (.tmp 43) 23 rfl (F := No) (W := w) sOut (items := _ :: _ :: _ :: _ :: _) HS3.out 3 (n := j) rfl rfl rfl (by simp) rfl rfl (by omega) ?_
               intro A7 c7 w7 hS7 hC7
               obtain ⟨u1, u2, u3, -⟩ := hS7.rules 2 (g := gO) (t := 29) rfl
               (have u5 := (u1 0).trans (show _ = some (.slice A j c') from rfl))
               clear u1 hC7))
          all_goals
            have HS8 := hide ((hS7.set_ 2 (g := gO) (t := 29) rfl 0 (.slice A7 (j + 1) c7)).sub (l := [_, _, _, _]) (List.sublist_append_left [_, _, _, _] [_]))
            clear hS7
            go_wp2_with fail
            go_roundw
            case rel => exact ⟨j + 1, A7, c7, t', by omega, by go_num, by rw [HRS.out]; exact HTA, HGN', by
              rw [HRS.out]
              dsimp only
              rw [outsV_app, outsV_one]
              exact HS8.out⟩
            case measure => simp [intOf]; omega
        · obtain rfl : j = nd := by omega
          have htk : ds.take j = ds := List.take_of_length_le (by rw [HDL.out]; exact Nat.le_refl _)
          rw [htk] at HA hS
          obtain ⟨k0, -, -, k3, -, k5, -, -, -, k9⟩ := rr_cells (pre := []) (rI_flat (hS.get 0 rfl))
          have CG := rgraph_any k9 ok
          rw [show renumF (absR t.s).objs (order (absR t.s).objs t.s.regs) = renumF (rrRun c ds (rr0 k)).2.σ.objs (order (rrRun c ds (rr0 k)).2.σ.objs (rrRun c ds (rr0 k)).2.σ.regs) from by rw [← HA.out]; rfl, show t.s.regs.map (turnL (order (absR t.s).objs t.s.regs)) = (rrRun c ds (rr0 k)).2.σ.regs.map (turnL (order (rrRun c ds (rr0 k)).2.σ.objs (rrRun c ds (rr0 k)).2.σ.regs)) from by rw [← HA.out]; rfl] at CG
          obtain ⟨FF, hFF⟩ : ∃ F, renumF (rrRun c ds (rr0 k)).2.σ.objs (order (rrRun c ds (rr0 k)).2.σ.objs (rrRun c ds (rr0 k)).2.σ.regs) = F := ⟨_, rfl⟩
          obtain ⟨RR, hRR⟩ : ∃ F, (rrRun c ds (rr0 k)).2.σ.regs.map (turnL (order (rrRun c ds (rr0 k)).2.σ.objs (rrRun c ds (rr0 k)).2.σ.regs)) = F := ⟨_, rfl⟩
          rw [hFF, hRR] at CG
          have HFF := hide hFF
          have HRR := hide hRR
          have HCG := hide CG
          have HTM := hide (show (rrRun c ds (rr0 k)).2.times = t.times from by rw [← HA.out]; rfl)
          obtain ⟨x1, x2, x3, -⟩ := hS.rules 2 (g := gO) (t := 29) rfl
          have hn1 : gO ≠ Br := fun e => hS.other (a := 2) (b := 0) (x := blkI gO 29 #[.slice A j c', .slice none 0 0, .slice none 0 0, .int .i64 0]) (y := rI Br Bm c t) rfl rfl (by omega) gO rfl ⟨_, List.mem_cons_self .., e⟩
          have hn2 : Br ≠ gO := fun e => hn1 e.symm
          have hn3 : g ≠ gO := fun e => hS.other (a := 1) (b := 2) rfl rfl (by omega) g rfl e
          have hn4 : gO ≠ g := fun e => hn3 e.symm
          have HS := hide hS
          have HNW := hide (show g < wr.heap.size ∧ gO < wr.heap.size ∧ w.heap.size ≤ wr.heap.size from ⟨hS.hi 1 rfl g rfl, hS.hi 2 rfl gO rfl, hS.below_.size⟩)
          clear hS r1 r2 r3 r4 hob ok CG hFF hRR htk HA HG HAT k9
          go_wp2_with fail
          refine HCG.out.mono ?_
          rintro e w3 ⟨v', rfl, hb3, hg3⟩
          obtain ⟨B5, n5, d5, B6, n6, d6, obs', rfl, hO5, hF5, hR6⟩ := hg3.ex
          have hS3 := HS.out.below hb3
          obtain ⟨q0, -, -, q3, -, q5, -, -, -, -⟩ := rr_cells (pre := []) (rI_flat (hS3.get 0 rfl))
          obtain ⟨y1, y2, y3, -⟩ := hS3.rules 2 (g := gO) (t := 29) rfl
          have y5 := (y1 0).trans (show _ = some (.slice A j c') from rfl)
          obtain ⟨z1, z2, z3, -⟩ := hS3.rules 1 (g := g) (t := 29) rfl
          have HG3 := hide hg3
          have HS3 := hide hS3
          clear hO5 hF5 hR6 hS3 hg3 hb3 HCG HS x1 x2 x3 k0 k3 k5
          go_wp2_with fail
          have hF := ((((((HS3.out.set_ 2 (g := gO) (t := 29) rfl 1 (.slice B5 n5 d5)).set_ 2 (g := gO) (t := 29) rfl 2 (.slice B6 n6 d6)).set_ 2 (g := gO) (t := 29) rfl 3 (.int .i64 t.times)).set_ 1 (g := g) (t := 29) rfl 0 (.slice A j c')).set_ 1 (g := g) (t := 29) rfl 1 (.slice B5 n5 d5)).set_ 1 (g := g) (t := 29) rfl 2 (.slice B6 n6 d6)).set_ 1 (g := g) (t := 29) rfl 3 (.int .i64 t.times)
          obtain ⟨v1, -, -, -⟩ := hF.rules 1 (g := g) (t := 29) rfl
          refine bodyPost_ret (v := .agg #[.slice A j c', .slice B5 n5 d5, .slice B6 n6 d6, .int .i64 t.times]) (by simp [results, Try.results29, go_sem, v1]) rfl ⟨A, c', B5, n5, d5, B6, n6, d6, by rw [HTM.out], hF.below_, hF.rd 3 rfl, ?_⟩
          have hc : Chg (fun g' => g' = gO ∨ g' = g) w3 (((((((w3.setCell ⟨gO, 1, none⟩ (.slice B5 n5 d5)).setCell ⟨gO, 2, none⟩ (.slice B6 n6 d6)).setCell ⟨gO, 3, none⟩ (.int .i64 t.times)).setCell ⟨g, 0, none⟩ (.slice A j c')).setCell ⟨g, 1, none⟩ (.slice B5 n5 d5)).setCell ⟨g, 2, none⟩ (.slice B6 n6 d6)).setCell ⟨g, 3, none⟩ (.int .i64 t.times)) :=
            (((((((Chg.refl (fun g' => g' = gO ∨ g' = g) w3).setCell (p := ⟨gO, 1, none⟩) (.inl (.inl rfl)) _).setCell (p := ⟨gO, 2, none⟩) (.inl (.inl rfl)) _).setCell (p := ⟨gO, 3, none⟩) (.inl (.inl rfl)) _).setCell (p := ⟨g, 0, none⟩) (.inl (.inr rfl)) _).setCell (p := ⟨g, 1, none⟩) (.inl (.inr rfl)) _).setCell (p := ⟨g, 2, none⟩) (.inl (.inr rfl)) _).setCell (p := ⟨g, 3, none⟩) (.inl (.inr rfl)) _
          rw [HFF.out, HRR.out]
          obtain ⟨h1, h2, h3⟩ := HNW.out
          obtain ⟨C5, m5', k5, C6, m6', k6, obs2, he, hO5, hF5, hR6⟩ := HG3.out.ex
          exact ⟨C5, m5', k5, C6, m6', k6, obs2, he, (hO5.chg hc (fun g' hg hd => by rcases hg with rfl | rfl <;> omega)).more (fun k _ hk => by omega), hF5, (hR6.chg hc (fun g' hg hd => by rcases hg with rfl | rfl <;> omega)).more (fun k _ hk => by omega)⟩
end Go.Proofs.Ytjphckfbbiehdaa
