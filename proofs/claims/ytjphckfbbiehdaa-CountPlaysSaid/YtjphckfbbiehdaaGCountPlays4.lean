/- A memory that counts: a script that may not be. The walk of the law on a memory that counts, where something is wrong. A memory that counts, plain: the program tells what the reference tells. -/
import Derived.Test.YtjphckfbbiehdaaGCountPlays3
import Derived.Test.YtjphckfbbiehdaaGIdealPlays16
import Derived.Test.YtjphckfbbiehdaaGTriPlays6
import Derived.Test.YtjphckfbbiehdaaGIdealPlays1
import Derived.Test.YtjphckfbbiehdaaGIdealPlays2
import Derived.Test.YtjphckfbbiehdaaGCountPlays1
set_option linter.unusedSimpArgs false
set_option linter.unusedVariables false
namespace Go.Proofs.Ytjphckfbbiehdaa
open Go.RowKit

def cntErr (nO nR nd : Nat) (obs : List Ob) (roots : List Val) (R : Int) : Int := if gcheck nO nR obs roots ≠ 0 then gcheck nO nR obs roots else if R < 1 ∨ 64 < R then 3 else if 100 < nd then 1 else 0

set_option maxRecDepth 100000 in
set_option maxHeartbeats 8000000 in
theorem countPlay_no (w : World) (AO AR Ad : Option Addr) (nO cO nR cR nd cd : Nat) (obs : List Ob) (roots : List Val) (R : Int) (hO : ObsRd w (fun _ => True) AO nO obs) (hR : Rd w (fun _ => True) 2 AR nR (vals roots)) (hz : cntErr nO nR nd obs roots R ≠ 0) :
    Calls Try.prog 31 #[.agg #[.slice AO nO cO, .slice AR nR cR], .int .i64 R, .slice Ad nd cd] w fun e w' => e = .returned (.tuple #[.agg #[.slice none 0 0, .slice none 0 0, .slice none 0 0], .int .i64 (cntErr nO nR nd obs roots R)]) ∧ Below w.heap.size w w' := by
  obtain ⟨g, hg⟩ : ∃ g, w.heap.size = g := ⟨_, rfl⟩
  have hS0 := ((Sep.nil No w).blkAt 27 #[.slice AO nO cO, .slice AR nR cR] hg).blkAt 73 #[.slice none 0 0, .slice none 0 0, .slice none 0 0] (g := g + 1) (by simp [hg])
  have C1 := hide (graphCheck_any _ AO AR nO cO nR cR obs roots (hO.below hS0.below_) (hR.below hS0.below_))
  obtain ⟨a1, a2, a3, a4⟩ := hS0.rules 0 (g := g) (t := 27) rfl
  have HS0 := hide hS0
  unfold cntErr at hz ⊢
  obtain ⟨x, hx⟩ : ∃ x, gcheck nO nR obs roots = x := ⟨_, rfl⟩
  rw [hx] at C1 hz ⊢
  clear hS0 a4 hO hR hx
  by_cases h0 : x = 0
  · subst h0
    rw [if_neg (by simp)] at hz ⊢
    by_cases hb : R < 1 ∨ 64 < R
    · rw [if_pos hb]
      by_cases hb1 : R < 1
      · have t1 : decide (R < 1) = true := by simp [hb1]
        clear hz hb hb1
        go_enter Try.func31, Try.ntmps31
        go_wp2_with fail
        refine C1.out.mono ?_
        rintro e w1 ⟨rfl, hb1⟩
        have hS2 := HS0.out.below hb1
        obtain ⟨x1, x2, x3, x4⟩ := hS2.rules 1 (g := g + 1) (t := 73) rfl
        have HS2 := hide hS2
        clear hb1 hS2 HS0 C1 a1 a2 a3 x4
        go_wp2_with fail
        have hF := ((HS2.out.set_ 1 (g := g + 1) (t := 73) rfl 0 (.slice none 0 0)).set_ 1 (g := g + 1) (t := 73) rfl 1 (.slice none 0 0)).set_ 1 (g := g + 1) (t := 73) rfl 2 (.slice none 0 0)
        refine bodyPost_ret (v := .tuple #[.agg #[.slice none 0 0, .slice none 0 0, .slice none 0 0], .int .i64 3]) (by simp [results, Try.results31, go_sem, x1]) rfl ⟨rfl, hF.below_⟩
      · have t1 : decide (R < 1) = false := by simp only [hb1, decide_false]
        have t2 : decide (64 < R) = true := by simp; omega
        clear hz hb hb1
        go_enter Try.func31, Try.ntmps31
        go_wp2_with fail
        refine C1.out.mono ?_
        rintro e w1 ⟨rfl, hb1⟩
        have hS2 := HS0.out.below hb1
        obtain ⟨x1, x2, x3, x4⟩ := hS2.rules 1 (g := g + 1) (t := 73) rfl
        have HS2 := hide hS2
        clear hb1 hS2 HS0 C1 a1 a2 a3 x4
        go_wp2_with fail
        have hF := ((HS2.out.set_ 1 (g := g + 1) (t := 73) rfl 0 (.slice none 0 0)).set_ 1 (g := g + 1) (t := 73) rfl 1 (.slice none 0 0)).set_ 1 (g := g + 1) (t := 73) rfl 2 (.slice none 0 0)
        refine bodyPost_ret (v := .tuple #[.agg #[.slice none 0 0, .slice none 0 0, .slice none 0 0], .int .i64 3]) (by simp [results, Try.results31, go_sem, x1]) rfl ⟨rfl, hF.below_⟩
    · rw [if_neg hb] at hz ⊢
      have hnd : 100 < nd := by
        split at hz
        · assumption
        · omega
      rw [if_pos hnd]
      have t1 : decide (R < 1) = false := by simp; omega
      have t2 : decide (64 < R) = false := by simp; omega
      have t3 : decide ((100 : Int) < (nd : Int)) = true := by simp; omega
      have t4 : decide (100 < nd) = true := by simp; omega
      clear hz hb
      go_enter Try.func31, Try.ntmps31
      go_wp2_with fail
      refine C1.out.mono ?_
      rintro e w1 ⟨rfl, hb1⟩
      have hS2 := HS0.out.below hb1
      obtain ⟨x1, x2, x3, x4⟩ := hS2.rules 1 (g := g + 1) (t := 73) rfl
      have HS2 := hide hS2
      clear hb1 hS2 HS0 C1 a1 a2 a3 x4
      go_wp2_with fail
      have hF := ((HS2.out.set_ 1 (g := g + 1) (t := 73) rfl 0 (.slice none 0 0)).set_ 1 (g := g + 1) (t := 73) rfl 1 (.slice none 0 0)).set_ 1 (g := g + 1) (t := 73) rfl 2 (.slice none 0 0)
      refine bodyPost_ret (v := .tuple #[.agg #[.slice none 0 0, .slice none 0 0, .slice none 0 0], .int .i64 1]) (by simp [results, Try.results31, go_sem, x1]) rfl ⟨rfl, hF.below_⟩
  · rw [if_pos h0]
    have t1 : decide (x = 0) = false := by simp [h0]
    have t2 : (x == 0) = false := by simp [h0]
    have t3 : (x != 0) = true := by simp [h0]
    clear hz
    go_enter Try.func31, Try.ntmps31
    go_wp2_with fail
    refine C1.out.mono ?_
    rintro e w1 ⟨rfl, hb1⟩
    have hS2 := HS0.out.below hb1
    obtain ⟨x1, x2, x3, x4⟩ := hS2.rules 1 (g := g + 1) (t := 73) rfl
    have HS2 := hide hS2
    clear hb1 hS2 HS0 C1 a1 a2 a3 x4
    go_wp2_with fail
    have hF := ((HS2.out.set_ 1 (g := g + 1) (t := 73) rfl 0 (.slice none 0 0)).set_ 1 (g := g + 1) (t := 73) rfl 1 (.slice none 0 0)).set_ 1 (g := g + 1) (t := 73) rfl 2 (.slice none 0 0)
    refine bodyPost_ret (v := .tuple #[.agg #[.slice none 0 0, .slice none 0 0, .slice none 0 0], .int .i64 x]) (by simp [results, Try.results31, go_sem, x1]) rfl ⟨rfl, hF.below_⟩
end Go.Proofs.Ytjphckfbbiehdaa

namespace Go.Proofs.Ytjphckfbbiehdaa
open Go.RowKit

set_option maxRecDepth 100000 in
set_option maxHeartbeats 16000000 in
theorem countPlays_no (w : World) (AO AR Ad : Option Addr) (nO cO nR cR nd cd : Nat) (obs : List Ob) (roots : List Val) (b : Int) (hO : ObsRd w (fun _ => True) AO nO obs) (hR : Rd w (fun _ => True) 2 AR nR (vals roots)) (hz : cntErr nO nR nd obs roots b ≠ 0) :
    Calls Try.prog 9 #[.agg #[.slice AO nO cO, .slice AR nR cR], .int .i64 b, .slice Ad nd cd] w fun e w' => e = .returned (.bool true) ∧ Below w.heap.size w w' := by
  obtain ⟨g, hg⟩ : ∃ g, w.heap.size = g := ⟨_, rfl⟩
  have hS0 := (Sep.nil No w).blkAt 27 #[.slice AO nO cO, .slice AR nR cR] hg
  obtain ⟨a1, a2, a3, a4⟩ := hS0.rules 0 (g := g) (t := 27) rfl
  have a5 := (a1 0).trans (show _ = some (.slice AO nO cO) from rfl)
  have a6 := (a1 1).trans (show _ = some (.slice AR nR cR) from rfl)
  have C1 := hide (countPlay_no _ AO AR Ad nO cO nR cR nd cd obs roots b (hO.below hS0.below_) (hR.below hS0.below_) hz)
  have C4 := hide (fun w' (hb : Below w.heap.size w w') => refCheck_any w' AO AR nO cO nR cR obs roots (hO.below hb) (hR.below hb))
  have C5 := hide (fun (X : World) => outs_any X none none 0 0 0 [] (by omega) Rd.nil Rd.nil)
  have C6 := hide (fun (X : World) => counts_any X none none 0 0 0 [] (by omega) Rd.nil Rd.nil)
  have C7 := hide (fun (X : World) => ints_same X (fun _ => True) (fun _ => True) none none 0 0 0 [] (by omega) Rd.nil Rd.nil)
  have HS0 := hide hS0
  unfold cntErr at hz C1
  obtain ⟨x, hx⟩ : ∃ x, gcheck nO nR obs roots = x := ⟨_, rfl⟩
  simp only [hx] at C1 C4
  rw [hx] at hz
  clear hS0 a4 hO hR hx a1
  by_cases h0 : x = 0
  · subst h0
    rw [if_neg (by simp)] at hz
    simp only [ne_eq, not_true_eq_false, if_false] at C1
    by_cases hb : b < 1 ∨ 64 < b
    · simp only [if_pos hb] at C1
      by_cases hb1 : b < 1
      · have t1 : decide (b < 1) = true := by simp [hb1]
        clear hz hb hb1
        go_enter Try.func9, Try.ntmps9
        go_wp2_with fail
        refine C1.out.mono ?_
        rintro e w1 ⟨rfl, hb1⟩
        obtain ⟨g1, hg1⟩ : ∃ g, w1.heap.size = g := ⟨_, rfl⟩
        have hS1 := (HS0.out.below hb1).blkAt 73 #[.slice none 0 0, .slice none 0 0, .slice none 0 0] hg1
        obtain ⟨b1, b2, b3, b4⟩ := hS1.rules 0 (g := g) (t := 27) rfl
        have b5 := (b1 0).trans (show _ = some (.slice AO nO cO) from rfl)
        have b6 := (b1 1).trans (show _ = some (.slice AR nR cR) from rfl)
        have C4 := hide (C4.out _ hS1.below_)
        have HS1 := hide hS1
        clear hb1 hS1 HS0 C1 a2 a3 a5 a6 b4 b1
        go_wp2_with fail
        refine C4.out.mono ?_
        rintro e w4 ⟨rfl, hb4⟩
        obtain ⟨g4, hg4⟩ : ∃ g, w4.heap.size = g := ⟨_, rfl⟩
        have hS4 := (HS1.out.below hb4).blkAt 73 #[.slice none 0 0, .slice none 0 0, .slice none 0 0] hg4
        obtain ⟨x1, x2, x3, _⟩ := hS4.rules 1 (g := g1) (t := 73) rfl
        obtain ⟨y1, y2, y3, _⟩ := hS4.rules 2 (g := g4) (t := 73) rfl
        have x5 := (x1 0).trans (show _ = some (.slice none 0 0) from rfl)
        have x6 := (x1 1).trans (show _ = some (.slice none 0 0) from rfl)
        have x7 := (x1 2).trans (show _ = some (.slice none 0 0) from rfl)
        have y5 := (y1 0).trans (show _ = some (.slice none 0 0) from rfl)
        have y6 := (y1 1).trans (show _ = some (.slice none 0 0) from rfl)
        have y7 := (y1 2).trans (show _ = some (.slice none 0 0) from rfl)
        have HS4 := hide hS4
        clear hb4 hS4 HS1 C4 b2 b3 b5 b6 x1 y1
        go_wp2_with fail
        refine (C5.out _).mono ?_
        rintro e w5 ⟨rfl, hb5⟩
        have hS5 := HS4.out.below hb5
        obtain ⟨x1, x2, x3, _⟩ := hS5.rules 1 (g := g1) (t := 73) rfl
        obtain ⟨y1, y2, y3, _⟩ := hS5.rules 2 (g := g4) (t := 73) rfl
        have x6 := (x1 1).trans (show _ = some (.slice none 0 0) from rfl)
        have x7 := (x1 2).trans (show _ = some (.slice none 0 0) from rfl)
        have y6 := (y1 1).trans (show _ = some (.slice none 0 0) from rfl)
        have y7 := (y1 2).trans (show _ = some (.slice none 0 0) from rfl)
        have HS5 := hide hS5
        clear hb5 hS5 HS4 C5 x1 y1
        go_wp2_with fail
        refine (C6.out _).mono ?_
        rintro e w6 ⟨rfl, hb6⟩
        have hS6 := HS5.out.below hb6
        obtain ⟨x1, x2, x3, _⟩ := hS6.rules 1 (g := g1) (t := 73) rfl
        obtain ⟨y1, y2, y3, _⟩ := hS6.rules 2 (g := g4) (t := 73) rfl
        have x7 := (x1 2).trans (show _ = some (.slice none 0 0) from rfl)
        have y7 := (y1 2).trans (show _ = some (.slice none 0 0) from rfl)
        have HS6 := hide hS6
        clear hb6 hS6 HS5 C6 x1 y1
        go_wp2_with fail
        refine (C7.out _).mono ?_
        rintro e w7 ⟨rfl, hb7⟩
        have HB7 := hide (HS6.out.below hb7).below_
        clear hb7 HS6
        go_wp2_with fail
        go_ret
        exact ⟨rfl, HB7.out⟩
      · have t1 : decide (b < 1) = false := by simp; omega
        have t2 : decide (64 < b) = true := by simp; omega
        clear hz hb hb1
        go_enter Try.func9, Try.ntmps9
        go_wp2_with fail
        refine C1.out.mono ?_
        rintro e w1 ⟨rfl, hb1⟩
        obtain ⟨g1, hg1⟩ : ∃ g, w1.heap.size = g := ⟨_, rfl⟩
        have hS1 := (HS0.out.below hb1).blkAt 73 #[.slice none 0 0, .slice none 0 0, .slice none 0 0] hg1
        obtain ⟨b1, b2, b3, b4⟩ := hS1.rules 0 (g := g) (t := 27) rfl
        have b5 := (b1 0).trans (show _ = some (.slice AO nO cO) from rfl)
        have b6 := (b1 1).trans (show _ = some (.slice AR nR cR) from rfl)
        have C4 := hide (C4.out _ hS1.below_)
        have HS1 := hide hS1
        clear hb1 hS1 HS0 C1 a2 a3 a5 a6 b4 b1
        go_wp2_with fail
        refine C4.out.mono ?_
        rintro e w4 ⟨rfl, hb4⟩
        obtain ⟨g4, hg4⟩ : ∃ g, w4.heap.size = g := ⟨_, rfl⟩
        have hS4 := (HS1.out.below hb4).blkAt 73 #[.slice none 0 0, .slice none 0 0, .slice none 0 0] hg4
        obtain ⟨x1, x2, x3, _⟩ := hS4.rules 1 (g := g1) (t := 73) rfl
        obtain ⟨y1, y2, y3, _⟩ := hS4.rules 2 (g := g4) (t := 73) rfl
        have x5 := (x1 0).trans (show _ = some (.slice none 0 0) from rfl)
        have x6 := (x1 1).trans (show _ = some (.slice none 0 0) from rfl)
        have x7 := (x1 2).trans (show _ = some (.slice none 0 0) from rfl)
        have y5 := (y1 0).trans (show _ = some (.slice none 0 0) from rfl)
        have y6 := (y1 1).trans (show _ = some (.slice none 0 0) from rfl)
        have y7 := (y1 2).trans (show _ = some (.slice none 0 0) from rfl)
        have HS4 := hide hS4
        clear hb4 hS4 HS1 C4 b2 b3 b5 b6 x1 y1
        go_wp2_with fail
        refine (C5.out _).mono ?_
        rintro e w5 ⟨rfl, hb5⟩
        have hS5 := HS4.out.below hb5
        obtain ⟨x1, x2, x3, _⟩ := hS5.rules 1 (g := g1) (t := 73) rfl
        obtain ⟨y1, y2, y3, _⟩ := hS5.rules 2 (g := g4) (t := 73) rfl
        have x6 := (x1 1).trans (show _ = some (.slice none 0 0) from rfl)
        have x7 := (x1 2).trans (show _ = some (.slice none 0 0) from rfl)
        have y6 := (y1 1).trans (show _ = some (.slice none 0 0) from rfl)
        have y7 := (y1 2).trans (show _ = some (.slice none 0 0) from rfl)
        have HS5 := hide hS5
        clear hb5 hS5 HS4 C5 x1 y1
        go_wp2_with fail
        refine (C6.out _).mono ?_
        rintro e w6 ⟨rfl, hb6⟩
        have hS6 := HS5.out.below hb6
        obtain ⟨x1, x2, x3, _⟩ := hS6.rules 1 (g := g1) (t := 73) rfl
        obtain ⟨y1, y2, y3, _⟩ := hS6.rules 2 (g := g4) (t := 73) rfl
        have x7 := (x1 2).trans (show _ = some (.slice none 0 0) from rfl)
        have y7 := (y1 2).trans (show _ = some (.slice none 0 0) from rfl)
        have HS6 := hide hS6
        clear hb6 hS6 HS5 C6 x1 y1
        go_wp2_with fail
        refine (C7.out _).mono ?_
        rintro e w7 ⟨rfl, hb7⟩
        have HB7 := hide (HS6.out.below hb7).below_
        clear hb7 HS6
        go_wp2_with fail
        go_ret
        exact ⟨rfl, HB7.out⟩
    · simp only [if_neg hb] at C1
      rw [if_neg hb] at hz
      have hnd : 100 < nd := by
        rcases Nat.lt_or_ge 100 nd with h | h
        · exact h
        · rw [if_neg (by omega)] at hz; exact absurd rfl hz
      simp only [if_pos hnd] at C1
      have t1 : decide (b < 1) = false := by simp; omega
      have t2 : decide (64 < b) = false := by simp; omega
      have t3 : decide ((100 : Int) < (nd : Int)) = true := by simp; omega
      have t4 : decide (100 < nd) = true := by simp; omega
      clear hz hb hnd
      go_enter Try.func9, Try.ntmps9
      go_wp2_with fail
      refine C1.out.mono ?_
      rintro e w1 ⟨rfl, hb1⟩
      obtain ⟨g1, hg1⟩ : ∃ g, w1.heap.size = g := ⟨_, rfl⟩
      have hS1 := (HS0.out.below hb1).blkAt 73 #[.slice none 0 0, .slice none 0 0, .slice none 0 0] hg1
      obtain ⟨b1, b2, b3, b4⟩ := hS1.rules 0 (g := g) (t := 27) rfl
      have b5 := (b1 0).trans (show _ = some (.slice AO nO cO) from rfl)
      have b6 := (b1 1).trans (show _ = some (.slice AR nR cR) from rfl)
      have C4 := hide (C4.out _ hS1.below_)
      have HS1 := hide hS1
      clear hb1 hS1 HS0 C1 a2 a3 a5 a6 b4 b1
      go_wp2_with fail
      refine C4.out.mono ?_
      rintro e w4 ⟨rfl, hb4⟩
      obtain ⟨g4, hg4⟩ : ∃ g, w4.heap.size = g := ⟨_, rfl⟩
      have hS4 := (HS1.out.below hb4).blkAt 73 #[.slice none 0 0, .slice none 0 0, .slice none 0 0] hg4
      obtain ⟨x1, x2, x3, _⟩ := hS4.rules 1 (g := g1) (t := 73) rfl
      obtain ⟨y1, y2, y3, _⟩ := hS4.rules 2 (g := g4) (t := 73) rfl
      have x5 := (x1 0).trans (show _ = some (.slice none 0 0) from rfl)
      have x6 := (x1 1).trans (show _ = some (.slice none 0 0) from rfl)
      have x7 := (x1 2).trans (show _ = some (.slice none 0 0) from rfl)
      have y5 := (y1 0).trans (show _ = some (.slice none 0 0) from rfl)
      have y6 := (y1 1).trans (show _ = some (.slice none 0 0) from rfl)
      have y7 := (y1 2).trans (show _ = some (.slice none 0 0) from rfl)
      have HS4 := hide hS4
      clear hb4 hS4 HS1 C4 b2 b3 b5 b6 x1 y1
      go_wp2_with fail
      refine (C5.out _).mono ?_
      rintro e w5 ⟨rfl, hb5⟩
      have hS5 := HS4.out.below hb5
      obtain ⟨x1, x2, x3, _⟩ := hS5.rules 1 (g := g1) (t := 73) rfl
      obtain ⟨y1, y2, y3, _⟩ := hS5.rules 2 (g := g4) (t := 73) rfl
      have x6 := (x1 1).trans (show _ = some (.slice none 0 0) from rfl)
      have x7 := (x1 2).trans (show _ = some (.slice none 0 0) from rfl)
      have y6 := (y1 1).trans (show _ = some (.slice none 0 0) from rfl)
      have y7 := (y1 2).trans (show _ = some (.slice none 0 0) from rfl)
      have HS5 := hide hS5
      clear hb5 hS5 HS4 C5 x1 y1
      go_wp2_with fail
      refine (C6.out _).mono ?_
      rintro e w6 ⟨rfl, hb6⟩
      have hS6 := HS5.out.below hb6
      obtain ⟨x1, x2, x3, _⟩ := hS6.rules 1 (g := g1) (t := 73) rfl
      obtain ⟨y1, y2, y3, _⟩ := hS6.rules 2 (g := g4) (t := 73) rfl
      have x7 := (x1 2).trans (show _ = some (.slice none 0 0) from rfl)
      have y7 := (y1 2).trans (show _ = some (.slice none 0 0) from rfl)
      have HS6 := hide hS6
      clear hb6 hS6 HS5 C6 x1 y1
      go_wp2_with fail
      refine (C7.out _).mono ?_
      rintro e w7 ⟨rfl, hb7⟩
      have HB7 := hide (HS6.out.below hb7).below_
      clear hb7 HS6
      go_wp2_with fail
      go_ret
      exact ⟨rfl, HB7.out⟩
  · simp only [if_pos h0] at C1
    have y8 : (x == 0) = false := by simp [h0]
    clear hz h0
    go_enter Try.func9, Try.ntmps9
    go_wp2_with fail
    refine C1.out.mono ?_
    rintro e w1 ⟨rfl, hb1⟩
    obtain ⟨g1, hg1⟩ : ∃ g, w1.heap.size = g := ⟨_, rfl⟩
    have hS1 := (HS0.out.below hb1).blkAt 73 #[.slice none 0 0, .slice none 0 0, .slice none 0 0] hg1
    obtain ⟨b1, b2, b3, b4⟩ := hS1.rules 0 (g := g) (t := 27) rfl
    have b5 := (b1 0).trans (show _ = some (.slice AO nO cO) from rfl)
    have b6 := (b1 1).trans (show _ = some (.slice AR nR cR) from rfl)
    have C4 := hide (C4.out _ hS1.below_)
    have HS1 := hide hS1
    clear hb1 hS1 HS0 C1 a2 a3 a5 a6 b4 b1
    go_wp2_with fail
    refine C4.out.mono ?_
    rintro e w4 ⟨rfl, hb4⟩
    obtain ⟨g4, hg4⟩ : ∃ g, w4.heap.size = g := ⟨_, rfl⟩
    have hS4 := (HS1.out.below hb4).blkAt 73 #[.slice none 0 0, .slice none 0 0, .slice none 0 0] hg4
    obtain ⟨x1, x2, x3, _⟩ := hS4.rules 1 (g := g1) (t := 73) rfl
    obtain ⟨y1, y2, y3, _⟩ := hS4.rules 2 (g := g4) (t := 73) rfl
    have x5 := (x1 0).trans (show _ = some (.slice none 0 0) from rfl)
    have x6 := (x1 1).trans (show _ = some (.slice none 0 0) from rfl)
    have x7 := (x1 2).trans (show _ = some (.slice none 0 0) from rfl)
    have y5 := (y1 0).trans (show _ = some (.slice none 0 0) from rfl)
    have y6 := (y1 1).trans (show _ = some (.slice none 0 0) from rfl)
    have y7 := (y1 2).trans (show _ = some (.slice none 0 0) from rfl)
    have HS4 := hide hS4
    clear hb4 hS4 HS1 C4 b2 b3 b5 b6 x1 y1
    go_wp2_with fail
    refine (C5.out _).mono ?_
    rintro e w5 ⟨rfl, hb5⟩
    have hS5 := HS4.out.below hb5
    obtain ⟨x1, x2, x3, _⟩ := hS5.rules 1 (g := g1) (t := 73) rfl
    obtain ⟨y1, y2, y3, _⟩ := hS5.rules 2 (g := g4) (t := 73) rfl
    have x6 := (x1 1).trans (show _ = some (.slice none 0 0) from rfl)
    have x7 := (x1 2).trans (show _ = some (.slice none 0 0) from rfl)
    have y6 := (y1 1).trans (show _ = some (.slice none 0 0) from rfl)
    have y7 := (y1 2).trans (show _ = some (.slice none 0 0) from rfl)
    have HS5 := hide hS5
    clear hb5 hS5 HS4 C5 x1 y1
    go_wp2_with fail
    refine (C6.out _).mono ?_
    rintro e w6 ⟨rfl, hb6⟩
    have hS6 := HS5.out.below hb6
    obtain ⟨x1, x2, x3, _⟩ := hS6.rules 1 (g := g1) (t := 73) rfl
    obtain ⟨y1, y2, y3, _⟩ := hS6.rules 2 (g := g4) (t := 73) rfl
    have x7 := (x1 2).trans (show _ = some (.slice none 0 0) from rfl)
    have y7 := (y1 2).trans (show _ = some (.slice none 0 0) from rfl)
    have HS6 := hide hS6
    clear hb6 hS6 HS5 C6 x1 y1
    go_wp2_with fail
    refine (C7.out _).mono ?_
    rintro e w7 ⟨rfl, hb7⟩
    have HB7 := hide (HS6.out.below hb7).below_
    clear hb7 HS6
    go_wp2_with fail
    go_ret
    exact ⟨rfl, HB7.out⟩
end Go.Proofs.Ytjphckfbbiehdaa

namespace Go.Proofs.Ytjphckfbbiehdaa
open Go.RowKit

theorem thereL_le {α : Type} (l : List (Option α)) : (thereL l).length ≤ l.length := thereK_len l l.length
theorem cn_law (R : Int) (ds : List DoV) {σ : MSt} (hM : MOk σ) :
    (cnRun R ds (cnBeg σ σ.objs.length)).1 = (crRun R ds (crBeg σ σ.objs.length)).1 ∧ cnThere (cnRun R ds (cnBeg σ σ.objs.length)).2 = crThere (crRun R ds (crBeg σ σ.objs.length)).2 ∧ (cnRun R ds (cnBeg σ σ.objs.length)).2.gl = (crRun R ds (crBeg σ σ.objs.length)).2.gl ∧
    (crRun R ds (crBeg σ σ.objs.length)).1.length = ds.length ∧ (crThere (crRun R ds (crBeg σ σ.objs.length)).2).length ≤ σ.objs.length + ds.length ∧ (crRun R ds (crBeg σ σ.objs.length)).2.gl.length ≤ σ.objs.length + ds.length := by
  obtain ⟨h1, h2, h3, _⟩ := cnBeg_ok hM σ.objs.length (Nat.le_refl _)
  obtain ⟨r1, r2, r3, r4, r5⟩ := cn_run R ds h1 h2 ds.length (Nat.le_refl _)
  rw [List.take_length] at r1 r2 r3 r4 r5
  have hgb := r3.gb
  refine ⟨r1, r2.told, r2.s.gl, by rw [← r1]; exact r5, ?_, by rw [← r2.s.gl]; omega⟩
  rw [← r2.told]
  unfold cnThere
  rw [List.length_map]
  have := thereL_le (cnRun R ds (cnBeg σ σ.objs.length)).2.objs
  omega
end Go.Proofs.Ytjphckfbbiehdaa
