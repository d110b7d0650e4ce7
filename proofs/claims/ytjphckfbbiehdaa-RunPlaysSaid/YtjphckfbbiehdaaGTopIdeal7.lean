/- The walk of the law TopIdeal. -/
import Derived.Test.YtjphckfbbiehdaaGTopIdeal6
import Derived.Test.YtjphckfbbiehdaaGIdealPlays20
set_option linter.unusedSimpArgs false
set_option linter.unusedVariables false
namespace Go.Proofs.Ytjphckfbbiehdaa
open Go.RowKit

/-- What a script leaves, of both. -/
theorem rn_ends (c : Int) {W : Int} (hW : 0 ≤ W) (ds : List DoV) : ∃ (FF : List (List Val)) (RR : List Val),
    renumF (rnRun c W ds rn0).2.gs (rnRun c W ds rn0).2.lives = FF ∧ (rnRun c W ds rn0).2.regs.map (turnL (rnRun c W ds rn0).2.lives) = RR ∧
    renumF (runM ((toldF [8] ds (rnRun c W ds rn0).1).map Prod.fst) σ0).2.objs (order (runM ((toldF [8] ds (rnRun c W ds rn0).1).map Prod.fst) σ0).2.objs (runM ((toldF [8] ds (rnRun c W ds rn0).1).map Prod.fst) σ0).2.regs) = FF ∧
    (runM ((toldF [8] ds (rnRun c W ds rn0).1).map Prod.fst) σ0).2.regs.map (turnL (order (runM ((toldF [8] ds (rnRun c W ds rn0).1).map Prod.fst) σ0).2.objs (runM ((toldF [8] ds (rnRun c W ds rn0).1).map Prod.fst) σ0).2.regs)) = RR ∧
    (∀ fs ∈ FF, fs.length ≤ 1000) ∧ FF.length ≤ ds.length ∧ RR.length = 8 := by
  obtain ⟨ok, _, hs⟩ := rn_told c hW ds
  have hs' : RnSim (rnRun c W ds rn0).2 (runM ((toldF [8] ds (rnRun c W ds rn0).1).map Prod.fst) σ0).2 := hs
  obtain ⟨g1, g2⟩ := rn_graph hs' ok
  obtain ⟨hm, _, _⟩ := runM_ok ((toldF [8] ds (rnRun c W ds rn0).1).map Prod.fst) σ0_ok
  refine ⟨_, _, rfl, rfl, by rw [g1, g2], by rw [g1, hs'.r], fun fs hfs => ?_, ?_, by rw [List.length_map, ok.r8]⟩
  · unfold renumF at hfs
    obtain ⟨x, hx, rfl⟩ := List.mem_map.1 hfs
    rw [List.length_map]
    obtain ⟨i, gs, rfl, hf⟩ := RnA.there.1 (ok.lives_there x hx)
    rw [RnA.gs_get, hf]
    have := ok.f4 i gs hf
    show gs.length ≤ 1000
    omega
  · unfold renumF
    rw [List.length_map]
    have h1 := (order_ok ok.gv.1 ok.gv.2).len
    have h2 := (rnRun_b c W ds).l1
    have h3 : rn0.objs.length = 0 := rfl
    have h4 : (rnRun c W ds rn0).2.gs.length = (rnRun c W ds rn0).2.objs.length := RnA.gs_len _
    have h5 : (rnRun c W ds rn0).2.lives.length = (order (rnRun c W ds rn0).2.gs (rnRun c W ds rn0).2.regs).length := rfl
    omega
theorem runErr_zero {c W : Int} {nd : Nat} (h : runErr c W nd = 0) : (1 ≤ c ∧ c ≤ 3) ∧ (1 ≤ W ∧ W ≤ 256) ∧ nd ≤ 100 := by
  unfold runErr at h
  split at h
  · omega
  · split at h
    · omega
    · split at h
      · omega
      · exact ⟨by omega, by omega, by omega⟩

set_option maxRecDepth 100000 in
set_option maxHeartbeats 16000000 in
theorem topIdeal_walk (w : World) (c W : Int) (Ad : Option Addr) (nd cd : Nat) (ds : List DoV) (hD : Rd w (fun _ => True) 5 Ad nd (dosV ds)) :
    Calls Try.prog 3 #[.int .i64 c, .int .i64 W, .slice Ad nd cd] w fun e w' => e = .returned (.bool true) ∧ Below w.heap.size w w' := by
  by_cases hz : runErr c W nd = 0
  · obtain ⟨hc, hW, hnd⟩ := runErr_zero hz
    have C1 := hide (runPlay_ok w c W Ad nd cd ds hz hD)
    obtain ⟨_, htold, _⟩ := rn_told c (show 0 ≤ W by omega) ds
    obtain ⟨FF, RR, f1, f2, f3, f4, f5, f6, f7⟩ := rn_ends c (show 0 ≤ W by omega) ds
    have hdl : ds.length = nd := by have := hD.1; rw [dosV_length] at this; omega
    have hol : (rnRun c W ds rn0).1.length = nd := by rw [rnRun_len]; exact hdl
    rw [f1, f2] at C1
    have CT := hide (fun (X : World) (A Aw : Option Addr) (c' cw : Nat) (hb : Below w.heap.size w X) (h1 : Rd X (fun _ => True) 3 A nd (outsV (rnRun c W ds rn0).1)) (h2 : Rd X (fun _ => True) 1 Aw 1 (ints [8])) => told_any X Ad A Aw nd cd c' cw ds (rnRun c W ds rn0).1 hnd (hD.below hb) h1 h2 htold)
    rw [f3, f4] at CT
    have CGR := hide (fun (X : World) (D D' : Nat → Prop) (v v2 : Value) (h1 : GraphRd X D v FF RR) (h2 : GraphRd X D' v2 FF RR) => graphs_any X D D' v v2 FF RR f5 (by omega) (by omega) h1 h2)
    clear htold f1 f2 f3 f4 f5 f6 f7 hol hD hdl hz
    go_enter Try.func3, Try.ntmps3
    go_wp2_with fail
    refine C1.out.mono ?_
    rintro e w1 ⟨A, c', B1, n1, c1, B2, n2, c2, rfl, hb1, hr1, hg1, -⟩
    obtain ⟨tm, htm⟩ : ∃ x, (rnRun c W ds rn0).2.times = x := ⟨_, rfl⟩
    rw [htm]
    obtain ⟨b7, hb7⟩ : ∃ x, w1.heap.size = x := ⟨_, rfl⟩
    have hS1 := ((Sep.nil No w).below hb1).blkAt 29 #[.slice A nd c', .slice B1 n1 c1, .slice B2 n2 c2, .int .i64 tm] hb7
    have hS2 := hS1.blkAt 3 #[.int .i64 8] (g := b7 + 1) (by simp [hb7])
    have hbb : Below w1.heap.size w1 ((w1.alloc (.cells #[.slice A nd c', .slice B1 n1 c1, .slice B2 n2 c2, .int .i64 tm] 29)).alloc (.cells #[.int .i64 8] 3)) := ((Below.refl _ w1).alloc (Nat.le_refl _) _).alloc (by simp) _
    have hr8 : Rd ((w1.alloc (.cells #[.slice A nd c', .slice B1 n1 c1, .slice B2 n2 c2, .int .i64 tm] 29)).alloc (.cells #[.int .i64 8] 3)) (fun _ => True) 1 (some ⟨b7 + 1, 0, none⟩) 1 (ints [8]) := rd_of_blk (g := b7 + 1) (t := 3) (cs := [.int .i64 8]) (hS2.get 1 rfl) rfl
    have CT2 := hide (CT.out _ A (some ⟨b7 + 1, 0, none⟩) c' 1 hS2.below_ ((hr1.below hbb).more (fun _ _ _ => trivial)) hr8)
    have HG1 := hide (hg1.below hbb)
    obtain ⟨x1, x2, x3, -⟩ := hS1.rules 0 (g := b7) (t := 29) rfl
    have x5 := (x1 0).trans (show _ = some (.slice A nd c') from rfl)
    have HS2 := hide hS2
    clear hb1 hr1 hg1 C1 CT hS1 hS2 hbb hr8 htm x1
    go_wp2_with fail
    refine CT2.out.mono ?_
    rintro e w2 ⟨B5, n5, d5, B6, n6, d6, rfl, hb2, hg2⟩
    obtain ⟨b9, hb9⟩ : ∃ x, w2.heap.size = x := ⟨_, rfl⟩
    have hS3 := (HS2.out.below hb2).blkAt 27 #[.slice B5 n5 d5, .slice B6 n6 d6] hb9
    have hbb : Below w2.heap.size w2 (w2.alloc (.cells #[.slice B5 n5 d5, .slice B6 n6 d6] 27)) := (Below.refl _ w2).alloc (Nat.le_refl _) _
    have CG2 := hide (CGR.out _ _ _ _ _ (hg2.below hbb) ((HG1.out.below hb2).below hbb))
    obtain ⟨x1, x2', x3', -⟩ := hS3.rules 0 (g := b7) (t := 29) rfl
    have y6 := (x1 1).trans (show _ = some (.slice B1 n1 c1) from rfl)
    have y7 := (x1 2).trans (show _ = some (.slice B2 n2 c2) from rfl)
    obtain ⟨z1, z2, z3, -⟩ := hS3.rules 2 (g := b9) (t := 27) rfl
    have z5 := (z1 0).trans (show _ = some (.slice B5 n5 d5) from rfl)
    have z6 := (z1 1).trans (show _ = some (.slice B6 n6 d6) from rfl)
    have HS3 := hide hS3
    clear hb2 hg2 HG1 CT2 CGR hS3 hbb HS2 x1 z1 x2 x3 x5
    go_wp2_with fail
    refine CG2.out.mono ?_
    rintro e w3 ⟨rfl, hb3⟩
    have HB := hide (HS3.out.below hb3).below_
    clear hb3 HS3 CG2
    go_wp2_with fail
    go_ret
    exact ⟨rfl, HB.out⟩
  · have C1 := hide (runPlay_no w c W Ad nd cd hz)
    obtain ⟨x, hx⟩ : ∃ x, runErr c W nd = x := ⟨_, rfl⟩
    rw [hx] at C1 hz
    have y1 : (x != 0) = true := by rw [bne_iff_ne]; exact hz
    clear hx hz hD
    go_enter Try.func3, Try.ntmps3
    go_wp2_with fail
    refine C1.out.mono ?_
    rintro e w1 ⟨rfl, hb1⟩
    obtain ⟨b7, hb7⟩ : ∃ x, w1.heap.size = x := ⟨_, rfl⟩
    have hS1 := ((Sep.nil No w).below hb1).blkAt 29 #[.slice none 0 0, .slice none 0 0, .slice none 0 0, .int .i64 0] hb7
    obtain ⟨x1, x2, x3, -⟩ := hS1.rules 0 (g := b7) (t := 29) rfl
    have x5 := (x1 0).trans (show _ = some (.slice none 0 0) from rfl)
    have HB := hide hS1.below_
    clear hb1 hS1 C1 x1
    go_wp2_with fail
    go_ret
    exact ⟨rfl, HB.out⟩
end Go.Proofs.Ytjphckfbbiehdaa
