/- The walk of the law on a memory with colours, where something is wrong. A memory with colours: work, sweep and what a machine does, as the plain deeds say. A memory with colours: small words for what is new. -/
import Derived.Test.YtjphckfbbiehdaaGTriPlays6
import Derived.Test.YtjphckfbbiehdaaGIdealPlays1
import Derived.Test.YtjphckfbbiehdaaGIdealPlays2
import Derived.Test.YtjphckfbbiehdaaGIdealPlays17
set_option linter.unusedSimpArgs false
set_option linter.unusedVariables false
namespace Go.Proofs.Ytjphckfbbiehdaa
open Go.RowKit

set_option maxRecDepth 100000 in
set_option maxHeartbeats 16000000 in
theorem triPlays_no (w : World) (AO AR Ad : Option Addr) (nO cO nR cR nd cd : Nat) (obs : List Ob) (roots : List Val) (b : Int) (hO : ObsRd w (fun _ => True) AO nO obs) (hR : Rd w (fun _ => True) 2 AR nR (vals roots)) (hz : triErr nO nR nd obs roots b ≠ 0) :
    Calls Try.prog 13 #[.agg #[.slice AO nO cO, .slice AR nR cR], .int .i64 b, .slice Ad nd cd] w fun e w' => e = .returned (.bool true) ∧ Below w.heap.size w w' := by
  obtain ⟨g, hg⟩ : ∃ g, w.heap.size = g := ⟨_, rfl⟩
  have hS0 := (Sep.nil No w).blkAt 27 #[.slice AO nO cO, .slice AR nR cR] hg
  obtain ⟨a1, a2, a3, a4⟩ := hS0.rules 0 (g := g) (t := 27) rfl
  have a5 := (a1 0).trans (show _ = some (.slice AO nO cO) from rfl)
  have a6 := (a1 1).trans (show _ = some (.slice AR nR cR) from rfl)
  have C1 := hide (triPlay_no _ AO AR Ad nO cO nR cR nd cd obs roots b (hO.below hS0.below_) (hR.below hS0.below_) hz)
  have C4 := hide (fun w' (hb : Below w.heap.size w w') => refCheck_any w' AO AR nO cO nR cR obs roots (hO.below hb) (hR.below hb))
  have C5 := hide (fun (X : World) => outs_any X none none 0 0 0 [] (by omega) Rd.nil Rd.nil)
  have C6 := hide (fun (X : World) => counts_any X none none 0 0 0 [] (by omega) Rd.nil Rd.nil)
  have C7 := hide (fun (X : World) => ints_same X (fun _ => True) (fun _ => True) none none 0 0 0 [] (by omega) Rd.nil Rd.nil)
  have HS0 := hide hS0
  unfold triErr at hz C1
  obtain ⟨x, hx⟩ : ∃ x, gcheck nO nR obs roots = x := ⟨_, rfl⟩
  simp only [hx] at C1 C4
  rw [hx] at hz
  clear hS0 a4 hO hR hx a1
  by_cases h0 : x = 0
  · subst h0
    rw [if_neg (by simp)] at hz
    simp only [ne_eq, not_true_eq_false, if_false] at C1
    by_cases hb : b < 1 ∨ 3 < b
    · simp only [if_pos hb] at C1
      by_cases hb1 : b < 1
      · have t1 : decide (b < 1) = true := by simp [hb1]
        clear hz hb hb1
        go_enter Try.func13, Try.ntmps13
        go_wp2_with fail
        refine C1.out.mono ?_
        rintro e w1 ⟨rfl, hb1⟩
        obtain ⟨g1, hg1⟩ : ∃ g, w1.heap.size = g := ⟨_, rfl⟩
        have hS1 := (HS0.out.below hb1).blkAt 94 #[.slice none 0 0, .slice none 0 0, .slice none 0 0] hg1
        obtain ⟨b1, b2, b3, b4⟩ := hS1.rules 0 (g := g) (t := 27) rfl
        have b5 := (b1 0).trans (show _ = some (.slice AO nO cO) from rfl)
        have b6 := (b1 1).trans (show _ = some (.slice AR nR cR) from rfl)
        have C4 := hide (C4.out _ hS1.below_)
        have HS1 := hide hS1
        clear hb1 hS1 HS0 C1 a2 a3 a5 a6 b4 b1
        go_wp2_with fail
        refine C4.out.mono ?_
        rintro e w4 ⟨rfl, hb4⟩
        obtain ⟨g4, hg4⟩ : ∃ g, w4.heap.size = g := ⟨_, rfl⟩
        have hS4 := (HS1.out.below hb4).blkAt 94 #[.slice none 0 0, .slice none 0 0, .slice none 0 0] hg4
        obtain ⟨x1, x2, x3, _⟩ := hS4.rules 1 (g := g1) (t := 94) rfl
        obtain ⟨y1, y2, y3, _⟩ := hS4.rules 2 (g := g4) (t := 94) rfl
        have x5 := (x1 0).trans (show _ = some (.slice none 0 0) from rfl)
        have x6 := (x1 1).trans (show _ = some (.slice none 0 0) from rfl)
        have x7 := (x1 2).trans (show _ = some (.slice none 0 0) from rfl)
        have y5 := (y1 0).trans (show _ = some (.slice none 0 0) from rfl)
        have y6 := (y1 1).trans (show _ = some (.slice none 0 0) from rfl)
        have y7 := (y1 2).trans (show _ = some (.slice none 0 0) from rfl)
        have HS4 := hide hS4
        clear hb4 hS4 HS1 C4 b2 b3 b5 b6 x1 y1
        go_wp2_with fail
        refine (C5.out _).mono ?_
        rintro e w5 ⟨rfl, hb5⟩
        have hS5 := HS4.out.below hb5
        obtain ⟨x1, x2, x3, _⟩ := hS5.rules 1 (g := g1) (t := 94) rfl
        obtain ⟨y1, y2, y3, _⟩ := hS5.rules 2 (g := g4) (t := 94) rfl
        have x6 := (x1 1).trans (show _ = some (.slice none 0 0) from rfl)
        have x7 := (x1 2).trans (show _ = some (.slice none 0 0) from rfl)
        have y6 := (y1 1).trans (show _ = some (.slice none 0 0) from rfl)
        have y7 := (y1 2).trans (show _ = some (.slice none 0 0) from rfl)
        have HS5 := hide hS5
        clear hb5 hS5 HS4 C5 x1 y1
        go_wp2_with fail
        refine (C6.out _).mono ?_
        rintro e w6 ⟨rfl, hb6⟩
        have hS6 := HS5.out.below hb6
        obtain ⟨x1, x2, x3, _⟩ := hS6.rules 1 (g := g1) (t := 94) rfl
        obtain ⟨y1, y2, y3, _⟩ := hS6.rules 2 (g := g4) (t := 94) rfl
        have x7 := (x1 2).trans (show _ = some (.slice none 0 0) from rfl)
        have y7 := (y1 2).trans (show _ = some (.slice none 0 0) from rfl)
        have HS6 := hide hS6
        clear hb6 hS6 HS5 C6 x1 y1
        go_wp2_with fail
        refine (C7.out _).mono ?_
        rintro e w7 ⟨rfl, hb7⟩
        have HB7 := hide (HS6.out.below hb7).below_
        clear hb7 HS6
        go_wp2_with fail
        go_ret
        exact ⟨rfl, HB7.out⟩
      · have t1 : decide (b < 1) = false := by simp; omega
        have t2 : decide (3 < b) = true := by simp; omega
        clear hz hb hb1
        go_enter Try.func13, Try.ntmps13
        go_wp2_with fail
        refine C1.out.mono ?_
        rintro e w1 ⟨rfl, hb1⟩
        obtain ⟨g1, hg1⟩ : ∃ g, w1.heap.size = g := ⟨_, rfl⟩
        have hS1 := (HS0.out.below hb1).blkAt 94 #[.slice none 0 0, .slice none 0 0, .slice none 0 0] hg1
        obtain ⟨b1, b2, b3, b4⟩ := hS1.rules 0 (g := g) (t := 27) rfl
        have b5 := (b1 0).trans (show _ = some (.slice AO nO cO) from rfl)
        have b6 := (b1 1).trans (show _ = some (.slice AR nR cR) from rfl)
        have C4 := hide (C4.out _ hS1.below_)
        have HS1 := hide hS1
        clear hb1 hS1 HS0 C1 a2 a3 a5 a6 b4 b1
        go_wp2_with fail
        refine C4.out.mono ?_
        rintro e w4 ⟨rfl, hb4⟩
        obtain ⟨g4, hg4⟩ : ∃ g, w4.heap.size = g := ⟨_, rfl⟩
        have hS4 := (HS1.out.below hb4).blkAt 94 #[.slice none 0 0, .slice none 0 0, .slice none 0 0] hg4
        obtain ⟨x1, x2, x3, _⟩ := hS4.rules 1 (g := g1) (t := 94) rfl
        obtain ⟨y1, y2, y3, _⟩ := hS4.rules 2 (g := g4) (t := 94) rfl
        have x5 := (x1 0).trans (show _ = some (.slice none 0 0) from rfl)
        have x6 := (x1 1).trans (show _ = some (.slice none 0 0) from rfl)
        have x7 := (x1 2).trans (show _ = some (.slice none 0 0) from rfl)
        have y5 := (y1 0).trans (show _ = some (.slice none 0 0) from rfl)
        have y6 := (y1 1).trans (show _ = some (.slice none 0 0) from rfl)
        have y7 := (y1 2).trans (show _ = some (.slice none 0 0) from rfl)
        have HS4 := hide hS4
        clear hb4 hS4 HS1 C4 b2 b3 b5 b6 x1 y1
        go_wp2_with fail
        refine (C5.out _).mono ?_
        rintro e w5 ⟨rfl, hb5⟩
        have hS5 := HS4.out.below hb5
        obtain ⟨x1, x2, x3, _⟩ := hS5.rules 1 (g := g1) (t := 94) rfl
        obtain ⟨y1, y2, y3, _⟩ := hS5.rules 2 (g := g4) (t := 94) rfl
        have x6 := (x1 1).trans (show _ = some (.slice none 0 0) from rfl)
        have x7 := (x1 2).trans (show _ = some (.slice none 0 0) from rfl)
        have y6 := (y1 1).trans (show _ = some (.slice none 0 0) from rfl)
        have y7 := (y1 2).trans (show _ = some (.slice none 0 0) from rfl)
        have HS5 := hide hS5
        clear hb5 hS5 HS4 C5 x1 y1
        go_wp2_with fail
        refine (C6.out _).mono ?_
        rintro e w6 ⟨rfl, hb6⟩
        have hS6 := HS5.out.below hb6
        obtain ⟨x1, x2, x3, _⟩ := hS6.rules 1 (g := g1) (t := 94) rfl
        obtain ⟨y1, y2, y3, _⟩ := hS6.rules 2 (g := g4) (t := 94) rfl
        have x7 := (x1 2).trans (show _ = some (.slice none 0 0) from rfl)
        have y7 := (y1 2).trans (show _ = some (.slice none 0 0) from rfl)
        have HS6 := hide hS6
        clear hb6 hS6 HS5 C6 x1 y1
        go_wp2_with fail
        refine (C7.out _).mono ?_
        rintro e w7 ⟨rfl, hb7⟩
        have HB7 := hide (HS6.out.below hb7).below_
        clear hb7 HS6
        go_wp2_with fail
        go_ret
        exact ⟨rfl, HB7.out⟩
    · simp only [if_neg hb] at C1
      rw [if_neg hb] at hz
      have hnd : 100 < nd := by
        rcases Nat.lt_or_ge 100 nd with h | h
        · exact h
        · rw [if_neg (by omega)] at hz; exact absurd rfl hz
      simp only [if_pos hnd] at C1
      have t1 : decide (b < 1) = false := by simp; omega
      have t2 : decide (3 < b) = false := by simp; omega
      have t3 : decide ((100 : Int) < (nd : Int)) = true := by simp; omega
      have t4 : decide (100 < nd) = true := by simp; omega
      clear hz hb hnd
      go_enter Try.func13, Try.ntmps13
      go_wp2_with fail
      refine C1.out.mono ?_
      rintro e w1 ⟨rfl, hb1⟩
      obtain ⟨g1, hg1⟩ : ∃ g, w1.heap.size = g := ⟨_, rfl⟩
      have hS1 := (HS0.out.below hb1).blkAt 94 #[.slice none 0 0, .slice none 0 0, .slice none 0 0] hg1
      obtain ⟨b1, b2, b3, b4⟩ := hS1.rules 0 (g := g) (t := 27) rfl
      have b5 := (b1 0).trans (show _ = some (.slice AO nO cO) from rfl)
      have b6 := (b1 1).trans (show _ = some (.slice AR nR cR) from rfl)
      have C4 := hide (C4.out _ hS1.below_)
      have HS1 := hide hS1
      clear hb1 hS1 HS0 C1 a2 a3 a5 a6 b4 b1
      go_wp2_with fail
      refine C4.out.mono ?_
      rintro e w4 ⟨rfl, hb4⟩
      obtain ⟨g4, hg4⟩ : ∃ g, w4.heap.size = g := ⟨_, rfl⟩
      have hS4 := (HS1.out.below hb4).blkAt 94 #[.slice none 0 0, .slice none 0 0, .slice none 0 0] hg4
      obtain ⟨x1, x2, x3, _⟩ := hS4.rules 1 (g := g1) (t := 94) rfl
      obtain ⟨y1, y2, y3, _⟩ := hS4.rules 2 (g := g4) (t := 94) rfl
      have x5 := (x1 0).trans (show _ = some (.slice none 0 0) from rfl)
      have x6 := (x1 1).trans (show _ = some (.slice none 0 0) from rfl)
      have x7 := (x1 2).trans (show _ = some (.slice none 0 0) from rfl)
      have y5 := (y1 0).trans (show _ = some (.slice none 0 0) from rfl)
      have y6 := (y1 1).trans (show _ = some (.slice none 0 0) from rfl)
      have y7 := (y1 2).trans (show _ = some (.slice none 0 0) from rfl)
      have HS4 := hide hS4
      clear hb4 hS4 HS1 C4 b2 b3 b5 b6 x1 y1
      go_wp2_with fail
      refine (C5.out _).mono ?_
      rintro e w5 ⟨rfl, hb5⟩
      have hS5 := HS4.out.below hb5
      obtain ⟨x1, x2, x3, _⟩ := hS5.rules 1 (g := g1) (t := 94) rfl
      obtain ⟨y1, y2, y3, _⟩ := hS5.rules 2 (g := g4) (t := 94) rfl
      have x6 := (x1 1).trans (show _ = some (.slice none 0 0) from rfl)
      have x7 := (x1 2).trans (show _ = some (.slice none 0 0) from rfl)
      have y6 := (y1 1).trans (show _ = some (.slice none 0 0) from rfl)
      have y7 := (y1 2).trans (show _ = some (.slice none 0 0) from rfl)
      have HS5 := hide hS5
      clear hb5 hS5 HS4 C5 x1 y1
      go_wp2_with fail
      refine (C6.out _).mono ?_
      rintro e w6 ⟨rfl, hb6⟩
      have hS6 := HS5.out.below hb6
      obtain ⟨x1, x2, x3, _⟩ := hS6.rules 1 (g := g1) (t := 94) rfl
      obtain ⟨y1, y2, y3, _⟩ := hS6.rules 2 (g := g4) (t := 94) rfl
      have x7 := (x1 2).trans (show _ = some (.slice none 0 0) from rfl)
      have y7 := (y1 2).trans (show _ = some (.slice none 0 0) from rfl)
      have HS6 := hide hS6
      clear hb6 hS6 HS5 C6 x1 y1
      go_wp2_with fail
      refine (C7.out _).mono ?_
      rintro e w7 ⟨rfl, hb7⟩
      have HB7 := hide (HS6.out.below hb7).below_
      clear hb7 HS6
      go_wp2_with fail
      go_ret
      exact ⟨rfl, HB7.out⟩
  · simp only [if_pos h0] at C1
    have y8 : (x == 0) = false := by simp [h0]
    clear hz h0
    go_enter Try.func13, Try.ntmps13
    go_wp2_with fail
    refine C1.out.mono ?_
    rintro e w1 ⟨rfl, hb1⟩
    obtain ⟨g1, hg1⟩ : ∃ g, w1.heap.size = g := ⟨_, rfl⟩
    have hS1 := (HS0.out.below hb1).blkAt 94 #[.slice none 0 0, .slice none 0 0, .slice none 0 0] hg1
    obtain ⟨b1, b2, b3, b4⟩ := hS1.rules 0 (g := g) (t := 27) rfl
    have b5 := (b1 0).trans (show _ = some (.slice AO nO cO) from rfl)
    have b6 := (b1 1).trans (show _ = some (.slice AR nR cR) from rfl)
    have C4 := hide (C4.out _ hS1.below_)
    have HS1 := hide hS1
    clear hb1 hS1 HS0 C1 a2 a3 a5 a6 b4 b1
    go_wp2_with fail
    refine C4.out.mono ?_
    rintro e w4 ⟨rfl, hb4⟩
    obtain ⟨g4, hg4⟩ : ∃ g, w4.heap.size = g := ⟨_, rfl⟩
    have hS4 := (HS1.out.below hb4).blkAt 94 #[.slice none 0 0, .slice none 0 0, .slice none 0 0] hg4
    obtain ⟨x1, x2, x3, _⟩ := hS4.rules 1 (g := g1) (t := 94) rfl
    obtain ⟨y1, y2, y3, _⟩ := hS4.rules 2 (g := g4) (t := 94) rfl
    have x5 := (x1 0).trans (show _ = some (.slice none 0 0) from rfl)
    have x6 := (x1 1).trans (show _ = some (.slice none 0 0) from rfl)
    have x7 := (x1 2).trans (show _ = some (.slice none 0 0) from rfl)
    have y5 := (y1 0).trans (show _ = some (.slice none 0 0) from rfl)
    have y6 := (y1 1).trans (show _ = some (.slice none 0 0) from rfl)
    have y7 := (y1 2).trans (show _ = some (.slice none 0 0) from rfl)
    have HS4 := hide hS4
    clear hb4 hS4 HS1 C4 b2 b3 b5 b6 x1 y1
    go_wp2_with fail
    refine (C5.out _).mono ?_
    rintro e w5 ⟨rfl, hb5⟩
    have hS5 := HS4.out.below hb5
    obtain ⟨x1, x2, x3, _⟩ := hS5.rules 1 (g := g1) (t := 94) rfl
    obtain ⟨y1, y2, y3, _⟩ := hS5.rules 2 (g := g4) (t := 94) rfl
    have x6 := (x1 1).trans (show _ = some (.slice none 0 0) from rfl)
    have x7 := (x1 2).trans (show _ = some (.slice none 0 0) from rfl)
    have y6 := (y1 1).trans (show _ = some (.slice none 0 0) from rfl)
    have y7 := (y1 2).trans (show _ = some (.slice none 0 0) from rfl)
    have HS5 := hide hS5
    clear hb5 hS5 HS4 C5 x1 y1
    go_wp2_with fail
    refine (C6.out _).mono ?_
    rintro e w6 ⟨rfl, hb6⟩
    have hS6 := HS5.out.below hb6
    obtain ⟨x1, x2, x3, _⟩ := hS6.rules 1 (g := g1) (t := 94) rfl
    obtain ⟨y1, y2, y3, _⟩ := hS6.rules 2 (g := g4) (t := 94) rfl
    have x7 := (x1 2).trans (show _ = some (.slice none 0 0) from rfl)
    have y7 := (y1 2).trans (show _ = some (.slice none 0 0) from rfl)
    have HS6 := hide hS6
    clear hb6 hS6 HS5 C6 x1 y1
    go_wp2_with fail
    refine (C7.out _).mono ?_
    rintro e w7 ⟨rfl, hb7⟩
    have HB7 := hide (HS6.out.below hb7).below_
    clear hb7 HS6
    go_wp2_with fail
    go_ret
    exact ⟨rfl, HB7.out⟩
end Go.Proofs.Ytjphckfbbiehdaa

namespace Go.Proofs.Ytjphckfbbiehdaa
open Go.RowKit

theorem coa_len (s : CoS) (regs : List Val) : (s.a regs).objs.length = s.oj.ps.length := oj_lenabs s.oj
theorem cowork_any {Be : Nat} {bv : Value} {s : CoS} {regs : List Val} {w : World} (hP : (coI Be bv s).P w) (ok : CoOk (s.a regs)) :
    Calls Try.prog 97 #[.pointer (some ⟨Be, 0, none⟩)] w fun e w' => ∃ (x : Int) (s' : CoS), e = .returned (.int .i64 x) ∧ coWork (s.a regs) = (⟨x, false, 0⟩, s'.a regs) ∧ Sep (coI Be bv s).fp w w' [coI Be bv s'] := by
  have hl : s.cols.length = s.oj.ps.length := ok.cl.trans (coa_len s regs)
  have hn := ok.n
  rw [coa_len] at hn
  refine (work_any hP hl (by omega) (fun i p hp => ?_)).mono ?_
  · have hf : (s.a regs).fld i = some p.o.fields := by
      unfold CoA.fld CoS.a Oj.abs
      dsimp only
      rw [List.getElem?_map, hp]; rfl
    exact ⟨ok.f4 i _ hf, fun v hv => vok_vin ok (ok.vf i _ v hf hv)⟩
  · rintro e w' (⟨h1, rfl, hb⟩ | ⟨i, p, h1, hp, rfl, hS⟩)
    · exact ⟨7, s, rfl, co_work_no regs h1, (Sep.start hP).below hb⟩
    · exact ⟨0, _, rfl, co_work_yes regs h1 hp, hS⟩
theorem cosweep_any {Be : Nat} {bv : Value} {s : CoS} {regs : List Val} {w : World} (hP : (coI Be bv s).P w) (ok : CoOk (s.a regs)) (hg : s.gone.length ≤ 100000) :
    Calls Try.prog 98 #[.pointer (some ⟨Be, 0, none⟩), .agg (vals regs).toArray] w fun e w' => ∃ (x : Int) (s' : CoS), e = .returned (.int .i64 x) ∧ coSweep (s.a regs) = (⟨x, false, 0⟩, s'.a regs) ∧ Sep (coI Be bv s).fp w w' [coI Be bv s'] := by
  have hl : s.cols.length = s.oj.ps.length := ok.cl.trans (coa_len s regs)
  have hn := ok.n
  rw [coa_len] at hn
  refine (sweep_any hP hl (by omega) hg ok.r8 (fun v hv => vok_vin ok (ok.vr v hv))).mono ?_
  rintro e w' (⟨h1, rfl, hS⟩ | ⟨h1, rfl, s', h2, h3, h4, hS⟩)
  · exact ⟨8, _, rfl, co_sweep_no regs h1, hS⟩
  · exact ⟨0, s', rfl, co_sweep_yes regs h1 h2 h3 h4, hS⟩
theorem codo_any (q : Nat) {Bm Be : Nat} {s : CoS} {regs : List Val} {F : Nat → Prop} {W w : World} {L : List Item} (h : Sep F W w (coI Be (barOf q).bv s :: blkI Bm 113 (mcCells regs (.iface 210 (.pointer (some ⟨Be, 0, none⟩)))) :: L)) (ok : CoOk (s.a regs)) (hn : (s.a regs).objs.length < 500) (d : DoV) :
    Calls Try.prog 43 #[.pointer (some ⟨Bm, 0, none⟩), .agg d.cells] w fun e w' => ∃ (oc : Int) (orf : Bool) (on : Int) (s' : CoS) (regs' : List Val), e = .returned (.agg #[.int .i64 oc, .bool orf, .int .i64 on]) ∧ coDo (barOf q) d (s.a regs) = (⟨oc, orf, on⟩, s'.a regs') ∧ Sep F W w' (coI Be (barOf q).bv s' :: blkI Bm 113 (mcCells regs' (.iface 210 (.pointer (some ⟨Be, 0, none⟩)))) :: L) := by
  have h1 := cok_wholeL (t := ⟨regs, s⟩) h
  refine (kdo_any (coK (barOf q) Bm Be) (coK_ok (barOf q) (barOf_ok q) Bm Be) (s := (⟨regs, s⟩ : CoT)) (h1.get 0 rfl) ⟨ok, hn⟩ d).mono ?_
  rintro e w' ⟨rfl, t', hab, hS⟩
  have h2 := cok_partL (h1.call 0 rfl hS)
  have hab2 : t'.s.a t'.regs = (coDo (barOf q) d (s.a regs)).2 := hab
  refine ⟨(coDo (barOf q) d (s.a regs)).1.code, (coDo (barOf q) d (s.a regs)).1.rf, (coDo (barOf q) d (s.a regs)).1.n, t'.s, t'.regs, rfl, ?_, h2⟩
  exact Prod.ext rfl hab2.symm
theorem whitesF_len (a : CoA) (c : List Int) : (whitesF (thereL a.objs) c).length ≤ a.objs.length := by
  have h1 := List.length_filter_le (fun x => decide (c.getD x.toNat 0 = 0)) (thereL a.objs)
  have h2 := thereK_len a.objs a.objs.length
  have h3 : (thereL a.objs).length = (thereK a.objs a.objs.length).length := rfl
  unfold whitesF
  omega
theorem coStep_gone (q : Nat) (d : DoV) (a : CoA) : (coStep q d a).2.gone.length ≤ a.gone.length + a.objs.length := by
  unfold coStep
  split
  · unfold coWork; split <;> exact Nat.le_add_right _ _
  split
  · unfold coSweep
    split
    · exact Nat.le_add_right _ _
    · dsimp only
      rw [List.length_append]
      have := whitesF_len a (shadeL a.cols a.regs)
      omega
  unfold coDo
  split
  · exact Nat.le_add_right _ _
  have hn : (coNew a d.n.toNat).1.gone = a.gone := by unfold coNew; split <;> rfl
  have e : (coKst (barOf q) d a).2.gone = a.gone := by
    unfold coKst
    split
    · split
      · exact hn
      · exact hn
    split
    · rfl
    split
    · rfl
    split
    · split <;> rfl
    split
    · split <;> rfl
    split <;> rfl
  rw [e]
  exact Nat.le_add_right _ _
theorem co_goneN {q : Nat} (hq : q = 1 ∨ q = 2 ∨ q = 3) {σ : MSt} (hM : MOk σ) (ds : List DoV) (hn : σ.objs.length ≤ 24) (hd : ds.length ≤ 100) (k : Nat) (hk : k ≤ ds.length) : (coRun q (ds.take k) (co0 σ)).2.gone.length ≤ k * 200 := by
  induction k with
  | zero => simp [coRun, co0]
  | succ k ih =>
    have h1 := ih (by omega)
    rw [coRun_at q ds (co0 σ) k (by omega)]
    have h2 := coStep_gone q ds[k] (coRun q (ds.take k) (co0 σ)).2
    have h3 := (co_at hq hM ds hn hd k (by omega)).2.1
    dsimp only
    omega
theorem outsV_one (o : OutV) : outsV [o] = [.int .i64 o.code, .bool o.rf, .int .i64 o.n] := rfl
end Go.Proofs.Ytjphckfbbiehdaa

namespace Go.Proofs.Ytjphckfbbiehdaa
open Go.RowKit

theorem Sep.blkAtF {F : Nat → Prop} {W w : World} {items : List Item} (h : Sep F W w items) (t : TypeId) (cs : Array Value) {g : Nat} (hg : w.heap.size = g) : Sep F W (w.alloc (.cells cs t)) (blkI g t cs :: items) := (h.blkAt t cs hg).perm (List.perm_append_comm (l₂ := [_]))
theorem sCount : SliceT Try.prog 71 174 2 16 := SliceT.mk_ Try.underlying71 (z := .agg #[.int .i64 0, .int .i64 0]) (by kernel_rfl) rfl (by omega)
theorem co_cell_at {Be : Nat} {bv : Value} {s : CoS} {X : World} (hP : (coI Be bv s).P X) {z gc : Nat} (hz : z < s.cols.length) (hA : s.Ac = some ⟨gc, 0, none⟩) :
    X.cell? ⟨Be, 2, none⟩ = some (.slice (some ⟨gc, 0, none⟩) s.cols.length s.cc) ∧ X.cell? ⟨gc, z, none⟩ = some (.int .i64 (s.cols.getD z 0)) ∧ gc < X.heap.size ∧ Be < X.heap.size := by
  obtain ⟨gc', hA', c0, c1, c2, c3, c4, n1⟩ := co_cell hP hz
  obtain rfl : gc' = gc := by rw [hA] at hA'; injection hA' with h; injection h with h; exact h.symm
  exact ⟨c0, c1, c3, c4⟩
theorem objs_new {W w w' : World} {items : List Item} {As : Option Addr} {nO c2 : Nat} {ps : List Po} (h : Sep No W w items) (hP : Sep No w w' (rowI 170 1 As nO c2 (ps.map poPtr) :: ps.map poI)) : Sep No W w' (allI (rowI 170 1 As nO c2 (ps.map poPtr) :: ps.map poI) :: items) :=
  h.consNew hP.below_ _ (hP.fold.get 0 rfl) (fun g hg => (hP.fold.lo 0 rfl g hg).resolve_left (fun h => h))
theorem row_new {W w w' : World} {items : List Item} {i : Item} (h : Sep No W w items) (hP : Sep No w w' [i]) : Sep No W w' (i :: items) :=
  h.consNew hP.below_ _ (hP.get 0 rfl) (fun g hg => (hP.lo 0 rfl g hg).resolve_left (fun h => h))

end Go.Proofs.Ytjphckfbbiehdaa
