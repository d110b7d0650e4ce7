/- The reference of a memory with young and old objects: a step. -/
import Derived.Test.YtjphckfbbiehdaaSGenPlays39
set_option linter.unusedSimpArgs false
set_option linter.unusedVariables false
namespace Go.Proofs.Ytjphckfbbiehdaa
open Go.RowKit
def GStepOk (Ba Bm : Nat) (t : GaT) (w : World) (d : DoV) (room : Nat) : Prop :=
  Calls Try.prog 93 #[.pointer (some ⟨Ba, 0, none⟩), .agg d.cells, .int .i64 (room : Int)] w fun e w' => e = .returned (grStep room d t.a).1.val ∧ ∃ t' : GaT, t'.a = (grStep room d t.a).2 ∧ t'.s.gone.length = t'.s.obs.length ∧ Sep (gaI Ba Bm t).fp w w' [gaI Ba Bm t']
theorem gI_flat {Ba Bm : Nat} {t : GaT} {w : World} (hP : (gaI Ba Bm t).P w) : Sep (gaI Ba Bm t).fp w w (gaL Ba Bm t ++ []) := by rw [List.append_nil]; exact ga_flat hP
theorem gI_fold {Ba Bm : Nat} {t' : GaT} {F : Nat → Prop} {W0 w : World} (h : Sep F W0 w (gaL Ba Bm t' ++ [])) : Sep F W0 w [gaI Ba Bm t'] := ga_fold (by rw [List.append_nil] at h; exact h)
/-- What a minor clearing leaves may be cleared up again. -/
theorem GaOk.of_minor {t t' : GaT} (ok : GaOk t) (h : t'.a = t.a.minor) (hg : t'.s.gone.length = t'.s.obs.length) : GaOk t' := by
  have h1 : absR t'.s = absR t.s := congrArg GrA.σ h
  have h2 : t'.old = List.replicate t.old.length true := congrArg GrA.old h
  have h3 : t'.s.gone.length = t.old.length := by
    have := congrArg (fun a : GrA => a.gone.length) h
    have e : t.a.minor.gone.length = t.old.length := by unfold GrA.minor; dsimp only; rw [List.length_map, List.length_range]; rfl
    exact this.trans e
  have h4 : t'.mks = [] := congrArg GrA.mks h
  have h5 : t'.s.obs.length = t.s.obs.length := by
    have := congrArg (fun s : MSt => s.objs.length) h1
    simpa [absR] using this
  have h6 : t'.old.length = t.old.length := by rw [h2, List.length_replicate]
  refine ⟨⟨by rw [h1]; exact ok.ok.m, by have := ok.ok.n; omega, hg⟩, by rw [h3, h6], by have := ok.n; omega, fun p hp => ?_, ?_, ?_⟩
  · rw [h4] at hp; cases hp
  · rw [h4]; exact List.Pairwise.nil
  · rw [h4]; exact Nat.zero_le _
theorem gaMinorI {Ba Bm : Nat} {t : GaT} {w : World} {F : Nat → Prop} {W0 : World} {L : List Item} (hS : Sep F W0 w (gaI Ba Bm t :: L)) (ok : GaOk t) :
    Calls Try.prog 151 #[.pointer (some ⟨Ba, 0, none⟩)] w fun e w' => (∃ u, e = .returned u) ∧ ∃ t' : GaT, t'.a = t.a.minor ∧ t'.s.gone.length = t'.s.obs.length ∧ Sep F W0 w' (gaI Ba Bm t' :: L) := by
  refine (gaminor_any (hS.get 0 rfl) ok).mono ?_
  rintro e w' ⟨he, t', h1, h2, hP⟩
  exact ⟨he, t', h1, h2, hS.call 0 rfl hP⟩
theorem gaMajorI {Ba Bm : Nat} {t : GaT} {w : World} {F : Nat → Prop} {W0 : World} {L : List Item} (hS : Sep F W0 w (gaI Ba Bm t :: L)) (ok : GaOk t) :
    Calls Try.prog 152 #[.pointer (some ⟨Ba, 0, none⟩)] w fun e w' => (∃ u, e = .returned u) ∧ ∃ t' : GaT, t'.a = t.a.major ∧ t'.s.gone.length = t'.s.obs.length ∧ Sep F W0 w' (gaI Ba Bm t' :: L) := by
  refine (gamajor_any (hS.get 0 rfl) ok.ok ok.hl (by have := ok.n; omega)).mono ?_
  rintro e w' ⟨he, t', h1, h2, hP⟩
  exact ⟨he, t', h1, h2, hS.call 0 rfl hP⟩
theorem gaRemI {Ba Bm : Nat} {t : GaT} {w : World} {F : Nat → Prop} {W0 : World} {L : List Item} (hS : Sep F W0 w (gaI Ba Bm t :: L)) (ok : GaOk t) (f : Gp) :
    Calls Try.prog 154 #[.pointer (some ⟨Ba, 0, none⟩), .agg #[.int .i64 (f.1 : Int), .int .i64 (f.2 : Int)]] w fun e w' => (∃ u, e = .returned u) ∧ ∃ (A : Option Addr) (c : Nat), Sep F W0 w' (gaI Ba Bm { t with Am := A, cm := c, mks := insF f t.mks } :: L) := by
  refine (garemember_any (hS.get 0 rfl) f ok.ms (by have := ok.mn; omega)).mono ?_
  rintro e w' ⟨he, A, c, hP⟩
  exact ⟨he, A, c, hS.call 0 rfl hP⟩
theorem gaDoI {Ba Bm : Nat} {t : GaT} {w : World} {F : Nat → Prop} {W0 : World} {L : List Item} (hS : Sep F W0 w (gaI Ba Bm t :: L)) (ok : ROk t.s) (d : DoV) (hw : rWrong d (absR t.s) = 0) :
    Calls Try.prog 81 #[.pointer (some ⟨Bm, 0, none⟩), .agg d.cells] w fun e w' => ∃ s' : RMem, e = .returned (stepK d (absR t.s)).1.val ∧ absR s' = (stepK d (absR t.s)).2 ∧ s'.gone.length = s'.obs.length ∧ s'.gone = goneD d t.s.gone ∧ Sep F W0 w' (gaI Ba Bm { t with s := s' } :: L) := by
  have hf := gI_flat (hS.get 0 rfl)
  refine (rdo_any (hf.get 3 rfl) ok d hw).mono ?_
  rintro e w' ⟨s', he, ha, hP, hg, hgd⟩
  exact ⟨s', he, ha, hg, hgd, hS.call 0 rfl (gI_fold (t' := { t with s := s' }) (hf.call 3 rfl hP))⟩
theorem gI_cells {F : Nat → Prop} {W0 w : World} {Ba Bm : Nat} {t : GaT} {k : Nat} {items : List Item} (hS : Sep F W0 w items) (hk : items[k]? = some (gaI Ba Bm t)) : w.cell? ⟨Ba, 0, none⟩ = some (.pointer (some ⟨Bm, 0, none⟩)) ∧ Ba < w.heap.size ∧ Bm < w.heap.size := by
  obtain ⟨c0, -, -, -, c4, -, c6, -⟩ := ga_cells (hS.get k hk)
  exact ⟨c0, c4, c6⟩
theorem gI_rm {F : Nat → Prop} {W0 w : World} {Ba Bm : Nat} {t : GaT} {k : Nat} {items : List Item} (hS : Sep F W0 w items) (hk : items[k]? = some (gaI Ba Bm t)) : (rmI Bm t.s).P w := (ga_cells (hS.get k hk)).2.2.2.2.2.1
set_option maxRecDepth 100000 in
set_option maxHeartbeats 16000000 in
theorem gStep_clear {Ba Bm : Nat} {t : GaT} {w : World} (hP : (gaI Ba Bm t).P w) (ok : GaOk t) (d : DoV) (hd : d.k = 8 ∨ d.k = 9) (room : Nat) : GStepOk Ba Bm t w d room := by
  unfold GStepOk
  obtain ⟨gd, hgd⟩ : ∃ g, w.heap.size = g := ⟨_, rfl⟩
  have hS0 := ((Sep.start hP).blkAt 39 d.cells hgd).blkAt 41 #[.int .i64 0, .bool false, .int .i64 0] (g := gd + 1) (by simp [hgd])
  have CM := hide (gaMinorI hS0 ok)
  have CJ := hide (gaMajorI hS0 ok)
  obtain ⟨x1, x2, x3, -⟩ := hS0.rules 1 (g := gd) (t := 39) rfl
  rcases hd with hd | hd
  · have hst : grStep room d t.a = (⟨0, false, 0⟩, t.a.minor) := by unfold grStep; rw [if_pos hd]
    rw [hst]
    obtain ⟨dk, dto, dfr, dat, dn⟩ := d
    dsimp only at hd
    subst hd
    unfold DoV.cells at x1 x2 x3 CM ⊢
    dsimp only at x1 x2 x3 CM ⊢
    have x5 := (x1 0).trans (show _ = some (.int .i64 8) from rfl)
    unfold OutV.val
    dsimp only
    clear hP hS0 ok CJ x1 hst
    go_enter Try.func93, Try.ntmps93
    go_wp2_with fail
    refine CM.out.mono ?_
    rintro e w2 ⟨⟨u, rfl⟩, t', hta, hgn, hS2⟩
    obtain ⟨y1, y2, y3, -⟩ := hS2.rules 2 (g := gd + 1) (t := 41) rfl
    have HS2 := hide hS2
    have HTA := hide hta
    have HGN := hide hgn
    clear hS2 CM x2 x3 x5 hta hgn
    go_wp2_with fail
    have hF := ((HS2.out.set_ 2 (g := gd + 1) (t := 41) rfl 0 (.int .i64 0)).set_ 2 (g := gd + 1) (t := 41) rfl 1 (.bool false)).set_ 2 (g := gd + 1) (t := 41) rfl 2 (.int .i64 0)
    obtain ⟨z1, -, -, -⟩ := hF.rules 2 (g := gd + 1) (t := 41) rfl
    refine bodyPost_ret (v := .agg #[.int .i64 0, .bool false, .int .i64 0]) (by simp [results, Try.results93, go_sem, z1]) rfl ⟨rfl, _, HTA.out, HGN.out, hF.sub (List.sublist_append_left [_] [_, _])⟩
  · have hst : grStep room d t.a = (⟨0, false, 0⟩, t.a.major) := by unfold grStep; rw [if_neg (by omega), if_pos hd]
    rw [hst]
    obtain ⟨dk, dto, dfr, dat, dn⟩ := d
    dsimp only at hd
    subst hd
    unfold DoV.cells at x1 x2 x3 CJ ⊢
    dsimp only at x1 x2 x3 CJ ⊢
    have x5 := (x1 0).trans (show _ = some (.int .i64 9) from rfl)
    unfold OutV.val
    dsimp only
    clear hP hS0 ok CM x1 hst
    go_enter Try.func93, Try.ntmps93
    go_wp2_with fail
    refine CJ.out.mono ?_
    rintro e w2 ⟨⟨u, rfl⟩, t', hta, hgn, hS2⟩
    obtain ⟨y1, y2, y3, -⟩ := hS2.rules 2 (g := gd + 1) (t := 41) rfl
    have HS2 := hide hS2
    have HTA := hide hta
    have HGN := hide hgn
    clear hS2 CJ x2 x3 x5 hta hgn
    go_wp2_with fail
    have hF := ((HS2.out.set_ 2 (g := gd + 1) (t := 41) rfl 0 (.int .i64 0)).set_ 2 (g := gd + 1) (t := 41) rfl 1 (.bool false)).set_ 2 (g := gd + 1) (t := 41) rfl 2 (.int .i64 0)
    obtain ⟨z1, -, -, -⟩ := hF.rules 2 (g := gd + 1) (t := 41) rfl
    refine bodyPost_ret (v := .agg #[.int .i64 0, .bool false, .int .i64 0]) (by simp [results, Try.results93, go_sem, z1]) rfl ⟨rfl, _, HTA.out, HGN.out, hF.sub (List.sublist_append_left [_] [_, _])⟩
set_option maxRecDepth 100000 in
set_option maxHeartbeats 16000000 in
theorem gStep_bad {Ba Bm : Nat} {t : GaT} {w : World} (hP : (gaI Ba Bm t).P w) (ok : GaOk t) (d : DoV) (room : Nat) (hd : d.k ≠ 8) (hd9 : d.k ≠ 9) (hw : rWrong d (absR t.s) ≠ 0) : GStepOk Ba Bm t w d room := by
  unfold GStepOk
  have hst : grStep room d t.a = (⟨rWrong d (absR t.s), false, 0⟩, t.a) := by
    have hs := stepM_rw d t.a.σ
    rw [if_pos (show rWrong d t.a.σ ≠ 0 from hw)] at hs
    unfold grStep
    rw [if_neg hd, if_neg hd9]
    by_cases hm : wrongM d ≠ 0
    · rw [if_pos hm]
      have : rWrong d (absR t.s) = wrongM d := by unfold rWrong; rw [if_pos hm]
      rw [this]
    · rw [if_neg hm]
      have hk1 : d.k ≠ 1 := fun e => by
        unfold rWrong at hw
        rw [if_neg hm, if_neg (by omega), if_neg (by omega)] at hw
        exact hw rfl
      rw [if_neg hk1, hs]
      have hrem : t.a.rem d = t.a.mks := by
        unfold GrA.rem
        rw [if_neg]
        rintro ⟨e4, ef, -⟩
        unfold rWrong at hw
        rw [if_neg hm, if_pos e4] at hw
        exact hw ef
      rw [hrem]
      rfl
  rw [hst]
  obtain ⟨x, hx⟩ : ∃ x, rWrong d (absR t.s) = x := ⟨_, rfl⟩
  obtain ⟨gd, hgd⟩ : ∃ g, w.heap.size = g := ⟨_, rfl⟩
  have hS0 := ((Sep.start hP).blkAt 39 d.cells hgd).blkAt 41 #[.int .i64 0, .bool false, .int .i64 0] (g := gd + 1) (by simp [hgd])
  have CW := rwrong_any (gI_rm hS0.drew (k := 0) rfl) ok.ok d
  rw [hx] at hw CW ⊢
  obtain ⟨k0, k5, -⟩ := gI_cells hS0 (k := 0) rfl
  obtain ⟨x1, x2, x3, -⟩ := hS0.rules 1 (g := gd) (t := 39) rfl
  obtain ⟨dk, dto, dfr, dat, dn⟩ := d
  dsimp only at hd hd9
  unfold DoV.cells at x1 x2 x3 CW hS0 k0 k5 ⊢
  dsimp only at x1 x2 x3 CW hS0 k0 k5 ⊢
  have f0 := (x1 0).trans (show _ = some (.int .i64 dk) from rfl)
  have f1 := (x1 1).trans (show _ = some (.int .i64 dto) from rfl)
  have f2 := (x1 2).trans (show _ = some (.int .i64 dfr) from rfl)
  have f3 := (x1 3).trans (show _ = some (.int .i64 dat) from rfl)
  have f4 := (x1 4).trans (show _ = some (.int .i64 dn) from rfl)
  have y8 : (dk == 8) = false := by simp [hd]
  have y9 : (dk == 9) = false := by simp [hd9]
  have yx0 : (x == 0) = false := by simp [hw]
  have yx : (x != 0) = true := by rw [bne_iff_ne]; exact hw
  have HGN := hide (show t.s.gone.length = t.s.obs.length from ok.ok.k)
  have HCW := hide CW
  have HS0 := hide hS0
  unfold OutV.val
  dsimp only
  clear hP hS0 ok CW x1 hst hd hd9 hw hx
  go_enter Try.func93, Try.ntmps93
  go_wp2_with fail
  go_region_held3 (fun w' => w'.cell? ⟨Ba, 0, none⟩ = some (.pointer (some ⟨Bm, 0, none⟩)) ∧ w'.cell? ⟨gd, 0, none⟩ = some (.int .i64 dk) ∧ w'.cell? ⟨gd, 1, none⟩ = some (.int .i64 dto) ∧ w'.cell? ⟨gd, 2, none⟩ = some (.int .i64 dfr) ∧ w'.cell? ⟨gd, 3, none⟩ = some (.int .i64 dat) ∧ w'.cell? ⟨gd, 4, none⟩ = some (.int .i64 dn)) (first | go_keep | (simp only [World.cell?_drew]; assumption) | assumption)
    ((go_at_call 78; (with_reducible refine HCW.out.mono ?_); rintro e w2 ⟨rfl, hb2⟩; have hS2 := HS0.out.drew.below hb2; obtain ⟨q0, q5, -⟩ := gI_cells hS2 (k := 0) rfl; obtain ⟨z1, z2, z3, -⟩ := hS2.rules 1 (g := gd) (t := 39) rfl; have z5 := (z1 0).trans (show _ = some (.int .i64 dk) from rfl); have z6 := (z1 1).trans (show _ = some (.int .i64 dto) from rfl); have z7 := (z1 2).trans (show _ = some (.int .i64 dfr) from rfl); have z8 := (z1 3).trans (show _ = some (.int .i64 dat) from rfl); have z9 := (z1 4).trans (show _ = some (.int .i64 dn) from rfl); obtain ⟨y1, y2, y3, -⟩ := hS2.rules 2 (g := gd + 1) (t := 41) rfl; have HS2 := hide hS2; clear hS2 hb2 z1))
  all_goals
    go_wp2_with fail
    have hF := ((HS2.out.set_ 2 (g := gd + 1) (t := 41) rfl 0 (.int .i64 x)).set_ 2 (g := gd + 1) (t := 41) rfl 1 (.bool false)).set_ 2 (g := gd + 1) (t := 41) rfl 2 (.int .i64 0)
    obtain ⟨z1, -, -, -⟩ := hF.rules 2 (g := gd + 1) (t := 41) rfl
    refine bodyPost_ret (v := .agg #[.int .i64 x, .bool false, .int .i64 0]) (by simp [results, Try.results93, go_sem, z1]) rfl ⟨rfl, t, rfl, HGN.out, hF.sub (List.sublist_append_left [_] [_, _])⟩
end Go.Proofs.Ytjphckfbbiehdaa
