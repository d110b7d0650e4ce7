/- The walk of the law RunPlays. -/
import Derived.Test.YtjphckfbbiehdaaGRunPlays1
import Derived.Test.YtjphckfbbiehdaaGTopIdeal7
import Derived.Test.YtjphckfbbiehdaaGIdealPlays19
set_option linter.unusedSimpArgs false
set_option linter.unusedVariables false
namespace Go.Proofs.Ytjphckfbbiehdaa
open Go.RowKit

theorem graph_dom {w : World} {D D' : Nat → Prop} {v : Value} {FF : List (List Val)} {RR : List Val} (h : GraphRd w D v FF RR) (hD : ∀ k, k < w.heap.size → D' k) : GraphRd w D' v FF RR := by
  obtain ⟨C5, m5', k5, C6, m6', k6, obs2, he, hO5, hF5, hR6⟩ := h.ex
  exact ⟨C5, m5', k5, C6, m6', k6, obs2, he, hO5.more (fun k hk _ => hD k hk), hF5, hR6.more (fun k hk _ => hD k hk)⟩
theorem graph_chg {w w' : World} {S D : Nat → Prop} {v : Value} {FF : List (List Val)} {RR : List Val} (h : GraphRd w D v FF RR) (hc : Chg S w w') (hM : ∀ g, S g → ¬ D g) : GraphRd w' D v FF RR := by
  obtain ⟨C5, m5', k5, C6, m6', k6, obs2, he, hO5, hF5, hR6⟩ := h.ex
  exact ⟨C5, m5', k5, C6, m6', k6, obs2, he, hO5.chg hc hM, hF5, hR6.chg hc hM⟩
/-- Both end alike. -/
theorem rr_ends {c : Int} (hc : c = 1 ∨ c = 2 ∨ c = 3) (W : Nat) (ds : List DoV) : (rrRun c ds (rr0 W)).1 = (rnRun c W ds rn0).1 ∧ (rrRun c ds (rr0 W)).2.times = (rnRun c W ds rn0).2.times ∧
    renumF (rrRun c ds (rr0 W)).2.σ.objs (order (rrRun c ds (rr0 W)).2.σ.objs (rrRun c ds (rr0 W)).2.σ.regs) = renumF (rnRun c W ds rn0).2.gs (rnRun c W ds rn0).2.lives ∧
    (rrRun c ds (rr0 W)).2.σ.regs.map (turnL (order (rrRun c ds (rr0 W)).2.σ.objs (rrRun c ds (rr0 W)).2.σ.regs)) = (rnRun c W ds rn0).2.regs.map (turnL (rnRun c W ds rn0).2.lives) := by
  obtain ⟨h1, h2⟩ := rr_run hc W ds
  obtain ⟨g1, g2⟩ := rn_graph h2.sim h2.ok
  exact ⟨h1.symm, h2.times.symm, by rw [g1, g2], by rw [g1, h2.sim.r]⟩

set_option maxRecDepth 100000 in
set_option maxHeartbeats 16000000 in
theorem runPlays_ok (w : World) (c : Int) (W : Nat) (Ad : Option Addr) (nd cd : Nat) (ds : List DoV) (hz : runErr c W nd = 0) (hD : Rd w (fun _ => True) 5 Ad nd (dosV ds)) :
    Calls Try.prog 8 #[.int .i64 c, .int .i64 W, .slice Ad nd cd] w fun e w' => e = .returned (.bool true) ∧ Below w.heap.size w w' := by
  obtain ⟨hc1, hW1, hnd⟩ := runErr_zero hz
  have hc : c = 1 ∨ c = 2 ∨ c = 3 := by omega
  have C1 := hide (runPlay_ok w c W Ad nd cd ds hz hD)
  have C2 := hide (fun (X : World) (hb : Below w.heap.size w X) => refRun_any X c W hc (by omega) (by omega) Ad nd cd ds hnd (hD.below hb))
  obtain ⟨e1, e2, e3, e4⟩ := rr_ends hc W ds
  obtain ⟨FF, RR, f1, f2, f3, f4, f5, f6, f7⟩ := rn_ends c (show (0 : Int) ≤ W by omega) ds
  have hdl : ds.length = nd := by have := hD.1; rw [dosV_length] at this; omega
  rw [e1, e2, e3, e4, f1, f2] at C2
  rw [f1, f2] at C1
  have hol : (rnRun c W ds rn0).1.length = nd := by rw [rnRun_len]; exact hdl
  obtain ⟨os, hos⟩ : ∃ l, (rnRun c W ds rn0).1 = l := ⟨_, rfl⟩
  obtain ⟨tm, htm⟩ : ∃ l, (rnRun c W ds rn0).2.times = l := ⟨_, rfl⟩
  rw [hos, htm] at C1 C2
  have CO := hide (fun (X : World) (A1 A2 : Option Addr) (c1 c2 : Nat) (h1 : Rd X (fun _ => True) 3 A1 nd (outsV os)) (h2 : Rd X (fun _ => True) 3 A2 nd (outsV os)) => outs_any X A1 A2 nd c1 c2 os (by omega) h1 h2)
  have CGR := hide (fun (X : World) (D D' : Nat → Prop) (v v2 : Value) (h1 : GraphRd X D v FF RR) (h2 : GraphRd X D' v2 FF RR) => graphs_any X D D' v v2 FF RR f5 (by omega) (by omega) h1 h2)
  have t1 : decide (c < 1) = false := by simp; omega
  have t2 : decide (3 < c) = false := by simp; omega
  have t3 : decide ((W : Int) < 1) = false := by simp; omega
  have t4 : decide ((256 : Int) < (W : Int)) = false := by simp; omega
  have t5 : decide ((100 : Int) < (nd : Int)) = false := by simp; omega
  have t6 : decide (100 < nd) = false := by simp; omega
  have t7 : decide (256 < W) = false := by simp; omega
  have t8 : decide (W < 1) = false := by simp; omega
  clear hz hD hc1 hW1 hc e1 e2 e3 e4 f1 f2 f3 f4 f5 f6 f7 hdl hol hos htm
  go_enter Try.func8, Try.ntmps8
  go_wp2_with fail
  refine C1.out.mono ?_
  rintro e w1 ⟨A, c', B1, n1, c1, B2, n2, c2, rfl, hb1, hr1, hg1, -⟩
  obtain ⟨b7, hb7⟩ : ∃ x, w1.heap.size = x := ⟨_, rfl⟩
  have hS1 := (((Sep.nil No w).below hb1).blkAt 29 #[.slice A nd c', .slice B1 n1 c1, .slice B2 n2 c2, .int .i64 tm] hb7).blkAt 29 #[.slice none 0 0, .slice none 0 0, .slice none 0 0, .int .i64 0] (g := b7 + 1) (by simp [hb7])
  have hbb : Below w1.heap.size w1 ((w1.alloc (.cells #[.slice A nd c', .slice B1 n1 c1, .slice B2 n2 c2, .int .i64 tm] 29)).alloc (.cells #[.slice none 0 0, .slice none 0 0, .slice none 0 0, .int .i64 0] 29)) := ((Below.refl _ w1).alloc (Nat.le_refl _) _).alloc (by simp) _
  have C2b := hide (C2.out _ hS1.below_)
  have HG1 := hide ((graph_dom hg1 (fun k hk => (by omega : k < b7))).below hbb)
  have HR1 := hide ((hr1.more (D' := fun g => g < b7) (fun k hk _ => by omega)).below hbb)
  have HS1 := hide hS1
  clear hb1 hr1 hg1 C1 C2 hS1 hbb
  go_wp2_with fail
  refine C2b.out.mono ?_
  rintro e w2 ⟨A2, c2', D1, m1, k1, D2, m2, k2, rfl, hb2, hr2, hg2⟩
  have hS2 := ((((HS1.out.below hb2).set_ 1 (g := b7 + 1) (t := 29) rfl 0 (.slice A2 nd c2')).set_ 1 (g := b7 + 1) (t := 29) rfl 1 (.slice D1 m1 k1)).set_ 1 (g := b7 + 1) (t := 29) rfl 2 (.slice D2 m2 k2)).set_ 1 (g := b7 + 1) (t := 29) rfl 3 (.int .i64 tm)
  have hch : Chg (fun g' => g' = b7 + 1) w2 ((((w2.setCell ⟨b7 + 1, 0, none⟩ (.slice A2 nd c2')).setCell ⟨b7 + 1, 1, none⟩ (.slice D1 m1 k1)).setCell ⟨b7 + 1, 2, none⟩ (.slice D2 m2 k2)).setCell ⟨b7 + 1, 3, none⟩ (.int .i64 tm)) :=
    ((((Chg.refl (fun g' => g' = b7 + 1) w2).setCell (p := ⟨b7 + 1, 0, none⟩) (.inl rfl) _).setCell (p := ⟨b7 + 1, 1, none⟩) (.inl rfl) _).setCell (p := ⟨b7 + 1, 2, none⟩) (.inl rfl) _).setCell (p := ⟨b7 + 1, 3, none⟩) (.inl rfl) _
  obtain ⟨y1, y2, y3, -⟩ := (HS1.out.below hb2).rules 1 (g := b7 + 1) (t := 29) rfl
  obtain ⟨W2, hW2⟩ : ∃ X, (((w2.setCell ⟨b7 + 1, 0, none⟩ (.slice A2 nd c2')).setCell ⟨b7 + 1, 1, none⟩ (.slice D1 m1 k1)).setCell ⟨b7 + 1, 2, none⟩ (.slice D2 m2 k2)).setCell ⟨b7 + 1, 3, none⟩ (.int .i64 tm) = X := ⟨_, rfl⟩
  rw [hW2] at hS2 hch
  have hsz1 : b7 + 1 < w1.heap.size + 2 := by omega
  have HR1b := hide (((HR1.out.below hb2).chg hch (fun g' h hd => by subst h; omega)).more (D' := fun _ => True) (fun _ _ _ => trivial))
  have HR2b := hide (((hr2.chg hch (fun g' h hd => by subst h; simp at hd; omega))).more (D' := fun _ => True) (fun _ _ _ => trivial))
  have HG1b := hide (graph_chg (HG1.out.below hb2) hch (fun g' h hd => by subst h; omega))
  have HG2b := hide (graph_chg hg2 hch (fun g' h hd => by subst h; simp at hd; omega))
  obtain ⟨x1, x2, x3, -⟩ := hS2.rules 0 (g := b7) (t := 29) rfl
  have x5 := (x1 0).trans (show _ = some (.slice A nd c') from rfl)
  have x6 := (x1 1).trans (show _ = some (.slice B1 n1 c1) from rfl)
  have x7 := (x1 2).trans (show _ = some (.slice B2 n2 c2) from rfl)
  have x8 := (x1 3).trans (show _ = some (.int .i64 tm) from rfl)
  obtain ⟨z1, z2, z3, -⟩ := hS2.rules 1 (g := b7 + 1) (t := 29) rfl
  have z5 := (z1 0).trans (show _ = some (.slice A2 nd c2') from rfl)
  have z6 := (z1 1).trans (show _ = some (.slice D1 m1 k1) from rfl)
  have z7 := (z1 2).trans (show _ = some (.slice D2 m2 k2) from rfl)
  have z8 := (z1 3).trans (show _ = some (.int .i64 tm) from rfl)
  have CO2 := hide (CO.out W2 A A2 c' c2' HR1b.out HR2b.out)
  have HS2 := hide hS2
  clear hb2 hr2 hg2 hS2 hch HG1 HR1 C2b HS1 HR1b HR2b CO x1 z1 hsz1
  go_wp2_with fail
  refine CO2.out.mono ?_
  rintro e w4 ⟨rfl, hb4⟩
  have hS4 := HS2.out.below hb4
  have CG2 := hide (CGR.out w4 _ _ _ _ (HG1b.out.below hb4) (HG2b.out.below hb4))
  obtain ⟨q1, q2, q3, -⟩ := hS4.rules 0 (g := b7) (t := 29) rfl
  have q6 := (q1 1).trans (show _ = some (.slice B1 n1 c1) from rfl)
  have q7 := (q1 2).trans (show _ = some (.slice B2 n2 c2) from rfl)
  obtain ⟨r1, r2, r3, -⟩ := hS4.rules 1 (g := b7 + 1) (t := 29) rfl
  have r6 := (r1 1).trans (show _ = some (.slice D1 m1 k1) from rfl)
  have r7 := (r1 2).trans (show _ = some (.slice D2 m2 k2) from rfl)
  have HS4 := hide hS4
  clear hb4 hS4 HS2 CO2 HG1b HG2b CGR q1 r1 x2 x3 x5 x6 x7 x8 z2 z3 z5 z6 z7 z8
  go_wp2_with fail
  refine CG2.out.mono ?_
  rintro e w5 ⟨rfl, hb5⟩
  have hS5 := HS4.out.below hb5
  obtain ⟨s1, s2, s3, -⟩ := hS5.rules 0 (g := b7) (t := 29) rfl
  have s8 := (s1 3).trans (show _ = some (.int .i64 tm) from rfl)
  obtain ⟨v1, v2, v3, -⟩ := hS5.rules 1 (g := b7 + 1) (t := 29) rfl
  have v8 := (v1 3).trans (show _ = some (.int .i64 tm) from rfl)
  have HB := hide hS5.below_
  clear hb5 hS5 HS4 CG2 s1 v1 q2 q3 q6 q7 r2 r3 r6 r7
  go_wp2_with fail
  go_ret
  exact ⟨rfl, HB.out⟩
set_option maxRecDepth 100000 in
set_option maxHeartbeats 16000000 in
theorem runPlays_no (w : World) (c W : Int) (Ad : Option Addr) (nd cd : Nat) (hz : runErr c W nd ≠ 0) :
    Calls Try.prog 8 #[.int .i64 c, .int .i64 W, .slice Ad nd cd] w fun e w' => e = .returned (.bool true) ∧ Below w.heap.size w w' := by
  have C1 := hide (runPlay_no w c W Ad nd cd hz)
  unfold runErr at hz C1
  by_cases h1 : c < 1 ∨ 3 < c
  · rw [if_pos h1] at C1
    by_cases h2 : c < 1
    · have t1 : decide (c < 1) = true := by simp [h2]
      clear hz h1 h2
      go_enter Try.func8, Try.ntmps8
      go_wp2_with fail
      refine C1.out.mono ?_
      rintro e w1 ⟨rfl, hb1⟩
      obtain ⟨b7, hb7⟩ : ∃ x, w1.heap.size = x := ⟨_, rfl⟩
      have hS1 := (((Sep.nil No w).below hb1).blkAt 29 #[.slice none 0 0, .slice none 0 0, .slice none 0 0, .int .i64 0] hb7).blkAt 29 #[.slice none 0 0, .slice none 0 0, .slice none 0 0, .int .i64 0] (g := b7 + 1) (by simp [hb7])
      obtain ⟨x1, x2, x3, -⟩ := hS1.rules 0 (g := b7) (t := 29) rfl
      have x5 := (x1 0).trans (show _ = some (.slice none 0 0) from rfl)
      obtain ⟨z1, z2, z3, -⟩ := hS1.rules 1 (g := b7 + 1) (t := 29) rfl
      have z5 := (z1 0).trans (show _ = some (.slice none 0 0) from rfl)
      have CO2 := hide (outs_any _ none none 0 0 0 [] (by omega) (Rd.nil (w := (w1.alloc (.cells #[.slice none 0 0, .slice none 0 0, .slice none 0 0, .int .i64 0] 29)).alloc (.cells #[.slice none 0 0, .slice none 0 0, .slice none 0 0, .int .i64 0] 29))) Rd.nil)
      have HS1 := hide hS1
      clear hb1 hS1 C1 x1 z1
      go_wp2_with fail
      refine CO2.out.mono ?_
      rintro e w4 ⟨rfl, hb4⟩
      have hS4 := HS1.out.below hb4
      have CG2 := hide (graphs_any w4 (fun _ => True) (fun _ => True) (.agg #[.slice none 0 0, .slice none 0 0]) (.agg #[.slice none 0 0, .slice none 0 0]) [] [] (by simp) (by simp) (by simp) (GraphRd.nil _ _) (GraphRd.nil _ _))
      obtain ⟨q1, q2, q3, -⟩ := hS4.rules 0 (g := b7) (t := 29) rfl
      have q6 := (q1 1).trans (show _ = some (.slice none 0 0) from rfl)
      have q7 := (q1 2).trans (show _ = some (.slice none 0 0) from rfl)
      obtain ⟨r1, r2, r3, -⟩ := hS4.rules 1 (g := b7 + 1) (t := 29) rfl
      have r6 := (r1 1).trans (show _ = some (.slice none 0 0) from rfl)
      have r7 := (r1 2).trans (show _ = some (.slice none 0 0) from rfl)
      have HS4 := hide hS4
      clear hb4 hS4 HS1 CO2 q1 r1 x2 x3 x5 z2 z3 z5
      go_wp2_with fail
      refine CG2.out.mono ?_
      rintro e w5 ⟨rfl, hb5⟩
      have hS5 := HS4.out.below hb5
      obtain ⟨s1, s2, s3, -⟩ := hS5.rules 0 (g := b7) (t := 29) rfl
      have s8 := (s1 3).trans (show _ = some (.int .i64 0) from rfl)
      obtain ⟨v1, v2, v3, -⟩ := hS5.rules 1 (g := b7 + 1) (t := 29) rfl
      have v8 := (v1 3).trans (show _ = some (.int .i64 0) from rfl)
      have HB := hide hS5.below_
      clear hb5 hS5 HS4 CG2 s1 v1 q2 q3 q6 q7 r2 r3 r6 r7
      go_wp2_with fail
      go_ret
      exact ⟨rfl, HB.out⟩
    · have t1 : decide (c < 1) = false := by simp only [h2, decide_false]
      have t2 : decide (3 < c) = true := by simp; omega
      clear hz h1 h2
      go_enter Try.func8, Try.ntmps8
      go_wp2_with fail
      refine C1.out.mono ?_
      rintro e w1 ⟨rfl, hb1⟩
      obtain ⟨b7, hb7⟩ : ∃ x, w1.heap.size = x := ⟨_, rfl⟩
      have hS1 := (((Sep.nil No w).below hb1).blkAt 29 #[.slice none 0 0, .slice none 0 0, .slice none 0 0, .int .i64 0] hb7).blkAt 29 #[.slice none 0 0, .slice none 0 0, .slice none 0 0, .int .i64 0] (g := b7 + 1) (by simp [hb7])
      obtain ⟨x1, x2, x3, -⟩ := hS1.rules 0 (g := b7) (t := 29) rfl
      have x5 := (x1 0).trans (show _ = some (.slice none 0 0) from rfl)
      obtain ⟨z1, z2, z3, -⟩ := hS1.rules 1 (g := b7 + 1) (t := 29) rfl
      have z5 := (z1 0).trans (show _ = some (.slice none 0 0) from rfl)
      have CO2 := hide (outs_any _ none none 0 0 0 [] (by omega) (Rd.nil (w := (w1.alloc (.cells #[.slice none 0 0, .slice none 0 0, .slice none 0 0, .int .i64 0] 29)).alloc (.cells #[.slice none 0 0, .slice none 0 0, .slice none 0 0, .int .i64 0] 29))) Rd.nil)
      have HS1 := hide hS1
      clear hb1 hS1 C1 x1 z1
      go_wp2_with fail
      refine CO2.out.mono ?_
      rintro e w4 ⟨rfl, hb4⟩
      have hS4 := HS1.out.below hb4
      have CG2 := hide (graphs_any w4 (fun _ => True) (fun _ => True) (.agg #[.slice none 0 0, .slice none 0 0]) (.agg #[.slice none 0 0, .slice none 0 0]) [] [] (by simp) (by simp) (by simp) (GraphRd.nil _ _) (GraphRd.nil _ _))
      obtain ⟨q1, q2, q3, -⟩ := hS4.rules 0 (g := b7) (t := 29) rfl
      have q6 := (q1 1).trans (show _ = some (.slice none 0 0) from rfl)
      have q7 := (q1 2).trans (show _ = some (.slice none 0 0) from rfl)
      obtain ⟨r1, r2, r3, -⟩ := hS4.rules 1 (g := b7 + 1) (t := 29) rfl
      have r6 := (r1 1).trans (show _ = some (.slice none 0 0) from rfl)
      have r7 := (r1 2).trans (show _ = some (.slice none 0 0) from rfl)
      have HS4 := hide hS4
      clear hb4 hS4 HS1 CO2 q1 r1 x2 x3 x5 z2 z3 z5
      go_wp2_with fail
      refine CG2.out.mono ?_
      rintro e w5 ⟨rfl, hb5⟩
      have hS5 := HS4.out.below hb5
      obtain ⟨s1, s2, s3, -⟩ := hS5.rules 0 (g := b7) (t := 29) rfl
      have s8 := (s1 3).trans (show _ = some (.int .i64 0) from rfl)
      obtain ⟨v1, v2, v3, -⟩ := hS5.rules 1 (g := b7 + 1) (t := 29) rfl
      have v8 := (v1 3).trans (show _ = some (.int .i64 0) from rfl)
      have HB := hide hS5.below_
      clear hb5 hS5 HS4 CG2 s1 v1 q2 q3 q6 q7 r2 r3 r6 r7
      go_wp2_with fail
      go_ret
      exact ⟨rfl, HB.out⟩
  · rw [if_neg h1] at hz C1
    have t1 : decide (c < 1) = false := by simp; omega
    have t2 : decide (3 < c) = false := by simp; omega
    by_cases h2 : W < 1 ∨ 256 < W
    · rw [if_pos h2] at C1
      by_cases h3 : W < 1
      · have t3 : decide (W < 1) = true := by simp [h3]
        clear hz h1 h2 h3
        go_enter Try.func8, Try.ntmps8
        go_wp2_with fail
        refine C1.out.mono ?_
        rintro e w1 ⟨rfl, hb1⟩
        obtain ⟨b7, hb7⟩ : ∃ x, w1.heap.size = x := ⟨_, rfl⟩
        have hS1 := (((Sep.nil No w).below hb1).blkAt 29 #[.slice none 0 0, .slice none 0 0, .slice none 0 0, .int .i64 0] hb7).blkAt 29 #[.slice none 0 0, .slice none 0 0, .slice none 0 0, .int .i64 0] (g := b7 + 1) (by simp [hb7])
        obtain ⟨x1, x2, x3, -⟩ := hS1.rules 0 (g := b7) (t := 29) rfl
        have x5 := (x1 0).trans (show _ = some (.slice none 0 0) from rfl)
        obtain ⟨z1, z2, z3, -⟩ := hS1.rules 1 (g := b7 + 1) (t := 29) rfl
        have z5 := (z1 0).trans (show _ = some (.slice none 0 0) from rfl)
        have CO2 := hide (outs_any _ none none 0 0 0 [] (by omega) (Rd.nil (w := (w1.alloc (.cells #[.slice none 0 0, .slice none 0 0, .slice none 0 0, .int .i64 0] 29)).alloc (.cells #[.slice none 0 0, .slice none 0 0, .slice none 0 0, .int .i64 0] 29))) Rd.nil)
        have HS1 := hide hS1
        clear hb1 hS1 C1 x1 z1
        go_wp2_with fail
        refine CO2.out.mono ?_
        rintro e w4 ⟨rfl, hb4⟩
        have hS4 := HS1.out.below hb4
        have CG2 := hide (graphs_any w4 (fun _ => True) (fun _ => True) (.agg #[.slice none 0 0, .slice none 0 0]) (.agg #[.slice none 0 0, .slice none 0 0]) [] [] (by simp) (by simp) (by simp) (GraphRd.nil _ _) (GraphRd.nil _ _))
        obtain ⟨q1, q2, q3, -⟩ := hS4.rules 0 (g := b7) (t := 29) rfl
        have q6 := (q1 1).trans (show _ = some (.slice none 0 0) from rfl)
        have q7 := (q1 2).trans (show _ = some (.slice none 0 0) from rfl)
        obtain ⟨r1, r2, r3, -⟩ := hS4.rules 1 (g := b7 + 1) (t := 29) rfl
        have r6 := (r1 1).trans (show _ = some (.slice none 0 0) from rfl)
        have r7 := (r1 2).trans (show _ = some (.slice none 0 0) from rfl)
        have HS4 := hide hS4
        clear hb4 hS4 HS1 CO2 q1 r1 x2 x3 x5 z2 z3 z5
        go_wp2_with fail
        refine CG2.out.mono ?_
        rintro e w5 ⟨rfl, hb5⟩
        have hS5 := HS4.out.below hb5
        obtain ⟨s1, s2, s3, -⟩ := hS5.rules 0 (g := b7) (t := 29) rfl
        have s8 := (s1 3).trans (show _ = some (.int .i64 0) from rfl)
        obtain ⟨v1, v2, v3, -⟩ := hS5.rules 1 (g := b7 + 1) (t := 29) rfl
        have v8 := (v1 3).trans (show _ = some (.int .i64 0) from rfl)
        have HB := hide hS5.below_
        clear hb5 hS5 HS4 CG2 s1 v1 q2 q3 q6 q7 r2 r3 r6 r7
        go_wp2_with fail
        go_ret
        exact ⟨rfl, HB.out⟩
      · have t3 : decide (W < 1) = false := by simp only [h3, decide_false]
        have t4 : decide (256 < W) = true := by simp; omega
        clear hz h1 h2 h3
        go_enter Try.func8, Try.ntmps8
        go_wp2_with fail
        refine C1.out.mono ?_
        rintro e w1 ⟨rfl, hb1⟩
        obtain ⟨b7, hb7⟩ : ∃ x, w1.heap.size = x := ⟨_, rfl⟩
        have hS1 := (((Sep.nil No w).below hb1).blkAt 29 #[.slice none 0 0, .slice none 0 0, .slice none 0 0, .int .i64 0] hb7).blkAt 29 #[.slice none 0 0, .slice none 0 0, .slice none 0 0, .int .i64 0] (g := b7 + 1) (by simp [hb7])
        obtain ⟨x1, x2, x3, -⟩ := hS1.rules 0 (g := b7) (t := 29) rfl
        have x5 := (x1 0).trans (show _ = some (.slice none 0 0) from rfl)
        obtain ⟨z1, z2, z3, -⟩ := hS1.rules 1 (g := b7 + 1) (t := 29) rfl
        have z5 := (z1 0).trans (show _ = some (.slice none 0 0) from rfl)
        have CO2 := hide (outs_any _ none none 0 0 0 [] (by omega) (Rd.nil (w := (w1.alloc (.cells #[.slice none 0 0, .slice none 0 0, .slice none 0 0, .int .i64 0] 29)).alloc (.cells #[.slice none 0 0, .slice none 0 0, .slice none 0 0, .int .i64 0] 29))) Rd.nil)
        have HS1 := hide hS1
        clear hb1 hS1 C1 x1 z1
        go_wp2_with fail
        refine CO2.out.mono ?_
        rintro e w4 ⟨rfl, hb4⟩
        have hS4 := HS1.out.below hb4
        have CG2 := hide (graphs_any w4 (fun _ => True) (fun _ => True) (.agg #[.slice none 0 0, .slice none 0 0]) (.agg #[.slice none 0 0, .slice none 0 0]) [] [] (by simp) (by simp) (by simp) (GraphRd.nil _ _) (GraphRd.nil _ _))
        obtain ⟨q1, q2, q3, -⟩ := hS4.rules 0 (g := b7) (t := 29) rfl
        have q6 := (q1 1).trans (show _ = some (.slice none 0 0) from rfl)
        have q7 := (q1 2).trans (show _ = some (.slice none 0 0) from rfl)
        obtain ⟨r1, r2, r3, -⟩ := hS4.rules 1 (g := b7 + 1) (t := 29) rfl
        have r6 := (r1 1).trans (show _ = some (.slice none 0 0) from rfl)
        have r7 := (r1 2).trans (show _ = some (.slice none 0 0) from rfl)
        have HS4 := hide hS4
        clear hb4 hS4 HS1 CO2 q1 r1 x2 x3 x5 z2 z3 z5
        go_wp2_with fail
        refine CG2.out.mono ?_
        rintro e w5 ⟨rfl, hb5⟩
        have hS5 := HS4.out.below hb5
        obtain ⟨s1, s2, s3, -⟩ := hS5.rules 0 (g := b7) (t := 29) rfl
        have s8 := (s1 3).trans (show _ = some (.int .i64 0) from rfl)
        obtain ⟨v1, v2, v3, -⟩ := hS5.rules 1 (g := b7 + 1) (t := 29) rfl
        have v8 := (v1 3).trans (show _ = some (.int .i64 0) from rfl)
        have HB := hide hS5.below_
        clear hb5 hS5 HS4 CG2 s1 v1 q2 q3 q6 q7 r2 r3 r6 r7
        go_wp2_with fail
        go_ret
        exact ⟨rfl, HB.out⟩
    · rw [if_neg h2] at hz C1
      have t3 : decide (W < 1) = false := by simp; omega
      have t4 : decide (256 < W) = false := by simp; omega
      have h5 : 100 < nd := by
        rcases Nat.lt_or_ge 100 nd with h | h
        · exact h
        · rw [if_neg (by omega)] at hz; exact absurd rfl hz
      rw [if_pos h5] at C1
      have t5 : decide ((100 : Int) < (nd : Int)) = true := by simp; omega
      have t6 : decide (100 < nd) = true := by simp; omega
      clear hz h1 h2 h5
      go_enter Try.func8, Try.ntmps8
      go_wp2_with fail
      refine C1.out.mono ?_
      rintro e w1 ⟨rfl, hb1⟩
      obtain ⟨b7, hb7⟩ : ∃ x, w1.heap.size = x := ⟨_, rfl⟩
      have hS1 := (((Sep.nil No w).below hb1).blkAt 29 #[.slice none 0 0, .slice none 0 0, .slice none 0 0, .int .i64 0] hb7).blkAt 29 #[.slice none 0 0, .slice none 0 0, .slice none 0 0, .int .i64 0] (g := b7 + 1) (by simp [hb7])
      obtain ⟨x1, x2, x3, -⟩ := hS1.rules 0 (g := b7) (t := 29) rfl
      have x5 := (x1 0).trans (show _ = some (.slice none 0 0) from rfl)
      obtain ⟨z1, z2, z3, -⟩ := hS1.rules 1 (g := b7 + 1) (t := 29) rfl
      have z5 := (z1 0).trans (show _ = some (.slice none 0 0) from rfl)
      have CO2 := hide (outs_any _ none none 0 0 0 [] (by omega) (Rd.nil (w := (w1.alloc (.cells #[.slice none 0 0, .slice none 0 0, .slice none 0 0, .int .i64 0] 29)).alloc (.cells #[.slice none 0 0, .slice none 0 0, .slice none 0 0, .int .i64 0] 29))) Rd.nil)
      have HS1 := hide hS1
      clear hb1 hS1 C1 x1 z1
      go_wp2_with fail
      refine CO2.out.mono ?_
      rintro e w4 ⟨rfl, hb4⟩
      have hS4 := HS1.out.below hb4
      have CG2 := hide (graphs_any w4 (fun _ => True) (fun _ => True) (.agg #[.slice none 0 0, .slice none 0 0]) (.agg #[.slice none 0 0, .slice none 0 0]) [] [] (by simp) (by simp) (by simp) (GraphRd.nil _ _) (GraphRd.nil _ _))
      obtain ⟨q1, q2, q3, -⟩ := hS4.rules 0 (g := b7) (t := 29) rfl
      have q6 := (q1 1).trans (show _ = some (.slice none 0 0) from rfl)
      have q7 := (q1 2).trans (show _ = some (.slice none 0 0) from rfl)
      obtain ⟨r1, r2, r3, -⟩ := hS4.rules 1 (g := b7 + 1) (t := 29) rfl
      have r6 := (r1 1).trans (show _ = some (.slice none 0 0) from rfl)
      have r7 := (r1 2).trans (show _ = some (.slice none 0 0) from rfl)
      have HS4 := hide hS4
      clear hb4 hS4 HS1 CO2 q1 r1 x2 x3 x5 z2 z3 z5
      go_wp2_with fail
      refine CG2.out.mono ?_
      rintro e w5 ⟨rfl, hb5⟩
      have hS5 := HS4.out.below hb5
      obtain ⟨s1, s2, s3, -⟩ := hS5.rules 0 (g := b7) (t := 29) rfl
      have s8 := (s1 3).trans (show _ = some (.int .i64 0) from rfl)
      obtain ⟨v1, v2, v3, -⟩ := hS5.rules 1 (g := b7 + 1) (t := 29) rfl
      have v8 := (v1 3).trans (show _ = some (.int .i64 0) from rfl)
      have HB := hide hS5.below_
      clear hb5 hS5 HS4 CG2 s1 v1 q2 q3 q6 q7 r2 r3 r6 r7
      go_wp2_with fail
      go_ret
      exact ⟨rfl, HB.out⟩
theorem runPlays_walk (w : World) (c W : Int) (Ad : Option Addr) (nd cd : Nat) (ds : List DoV) (hD : Rd w (fun _ => True) 5 Ad nd (dosV ds)) :
    Calls Try.prog 8 #[.int .i64 c, .int .i64 W, .slice Ad nd cd] w fun e w' => e = .returned (.bool true) ∧ Below w.heap.size w w' := by
  by_cases hz : runErr c W nd = 0
  · obtain ⟨_, hW, _⟩ := runErr_zero hz
    obtain ⟨n, rfl⟩ := int_nat (show 0 ≤ W by omega)
    exact runPlays_ok w c n Ad nd cd ds hz hD
  · exact runPlays_no w c W Ad nd cd hz
end Go.Proofs.Ytjphckfbbiehdaa
