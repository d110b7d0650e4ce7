/- The walk of the law on a memory with young and old objects, where something is wrong. A memory with young and old objects, plain: a script; both tell the same. slices.Repeat of one number, at most twenty-four times. -/
import Derived.Test.YtjphckfbbiehdaaSGenPlays30
import Derived.Test.YtjphckfbbiehdaaSGenPlays31
import Derived.Test.YtjphckfbbiehdaaSGenPlays2
import Derived.Test.YtjphckfbbiehdaaSGenPlays4
import Derived.Test.YtjphckfbbiehdaaSGenPlays24
import Derived.Laws.CopyOwn
import Derived.Test.YtjphckfbbiehdaaSGenPlays6
set_option linter.unusedSimpArgs false
set_option linter.unusedVariables false
namespace Go.Proofs.Ytjphckfbbiehdaa
open Go.RowKit
set_option maxRecDepth 100000 in
set_option maxHeartbeats 16000000 in
theorem genPlays_no (w : World) (AO AR Ad : Option Addr) (nO cO nR cR nd cd : Nat) (obs : List Ob) (roots : List Val) (b : Int) (hO : ObsRd w (fun _ => True) AO nO obs) (hR : Rd w (fun _ => True) 2 AR nR (vals roots)) (hz : genErr nO nR nd obs roots b ≠ 0) :
    Calls Try.prog 12 #[.agg #[.slice AO nO cO, .slice AR nR cR], .int .i64 b, .slice Ad nd cd] w fun e w' => e = .returned (.bool true) ∧ Below w.heap.size w w' := by
  obtain ⟨g, hg⟩ : ∃ g, w.heap.size = g := ⟨_, rfl⟩
  have hS0 := (Sep.nil No w).blkAt 27 #[.slice AO nO cO, .slice AR nR cR] hg
  obtain ⟨a1, a2, a3, a4⟩ := hS0.rules 0 (g := g) (t := 27) rfl
  have a5 := (a1 0).trans (show _ = some (.slice AO nO cO) from rfl)
  have a6 := (a1 1).trans (show _ = some (.slice AR nR cR) from rfl)
  have C1 := hide (genPlay_no _ AO AR Ad nO cO nR cR nd cd obs roots b (hO.below hS0.below_) (hR.below hS0.below_) hz)
  have C4 := hide (fun w' (hb : Below w.heap.size w w') => refCheck_any w' AO AR nO cO nR cR obs roots (hO.below hb) (hR.below hb))
  have C5 := hide (fun (X : World) => outs_any X none none 0 0 0 [] (by omega) Rd.nil Rd.nil)
  have C6 := hide (fun (X : World) => counts_any X none none 0 0 0 [] (by omega) Rd.nil Rd.nil)
  have C7 := hide (fun (X : World) => counts_any X none none 0 0 0 [] (by omega) Rd.nil Rd.nil)
  have HS0 := hide hS0
  unfold genErr at hz C1
  obtain ⟨x, hx⟩ : ∃ x, gcheck nO nR obs roots = x := ⟨_, rfl⟩
  simp only [hx] at C1 C4
  rw [hx] at hz
  clear hS0 a4 hO hR hx a1
  by_cases h0 : x = 0
  · subst h0
    rw [if_neg (by simp)] at hz
    simp only [ne_eq, not_true_eq_false, if_false] at C1
    by_cases hb : b < 1 ∨ 64 < b
    · simp only [if_pos hb] at C1
      by_cases hb1 : b < 1
      · have t1 : decide (b < 1) = true := by simp [hb1]
        clear hz hb hb1
        go_enter Try.func12, Try.ntmps12
        go_wp2_with fail
        refine C1.out.mono ?_
        rintro e w1 ⟨rfl, hb1⟩
        obtain ⟨g1, hg1⟩ : ∃ g, w1.heap.size = g := ⟨_, rfl⟩
        have hS1 := (HS0.out.below hb1).blkAt 90 #[.slice none 0 0, .slice none 0 0, .slice none 0 0] hg1
        obtain ⟨b1, b2, b3, b4⟩ := hS1.rules 0 (g := g) (t := 27) rfl
        have b5 := (b1 0).trans (show _ = some (.slice AO nO cO) from rfl)
        have b6 := (b1 1).trans (show _ = some (.slice AR nR cR) from rfl)
        have C4 := hide (C4.out _ hS1.below_)
        have HS1 := hide hS1
        clear hb1 hS1 HS0 C1 a2 a3 a5 a6 b4 b1
        go_wp2_with fail
        refine C4.out.mono ?_
        rintro e w4 ⟨rfl, hb4⟩
        obtain ⟨g4, hg4⟩ : ∃ g, w4.heap.size = g := ⟨_, rfl⟩
        have hS4 := (HS1.out.below hb4).blkAt 90 #[.slice none 0 0, .slice none 0 0, .slice none 0 0] hg4
        obtain ⟨x1, x2, x3, _⟩ := hS4.rules 1 (g := g1) (t := 90) rfl
        obtain ⟨y1, y2, y3, _⟩ := hS4.rules 2 (g := g4) (t := 90) rfl
        have x5 := (x1 0).trans (show _ = some (.slice none 0 0) from rfl)
        have x6 := (x1 1).trans (show _ = some (.slice none 0 0) from rfl)
        have x7 := (x1 2).trans (show _ = some (.slice none 0 0) from rfl)
        have y5 := (y1 0).trans (show _ = some (.slice none 0 0) from rfl)
        have y6 := (y1 1).trans (show _ = some (.slice none 0 0) from rfl)
        have y7 := (y1 2).trans (show _ = some (.slice none 0 0) from rfl)
        have HS4 := hide hS4
        clear hb4 hS4 HS1 C4 b2 b3 b5 b6 x1 y1
        go_wp2_with fail
        refine (C5.out _).mono ?_
        rintro e w5 ⟨rfl, hb5⟩
        have hS5 := HS4.out.below hb5
        obtain ⟨x1, x2, x3, _⟩ := hS5.rules 1 (g := g1) (t := 90) rfl
        obtain ⟨y1, y2, y3, _⟩ := hS5.rules 2 (g := g4) (t := 90) rfl
        have x6 := (x1 1).trans (show _ = some (.slice none 0 0) from rfl)
        have x7 := (x1 2).trans (show _ = some (.slice none 0 0) from rfl)
        have y6 := (y1 1).trans (show _ = some (.slice none 0 0) from rfl)
        have y7 := (y1 2).trans (show _ = some (.slice none 0 0) from rfl)
        have HS5 := hide hS5
        clear hb5 hS5 HS4 C5 x1 y1
        go_wp2_with fail
        refine (C6.out _).mono ?_
        rintro e w6 ⟨rfl, hb6⟩
        have hS6 := HS5.out.below hb6
        obtain ⟨x1, x2, x3, _⟩ := hS6.rules 1 (g := g1) (t := 90) rfl
        obtain ⟨y1, y2, y3, _⟩ := hS6.rules 2 (g := g4) (t := 90) rfl
        have x7 := (x1 2).trans (show _ = some (.slice none 0 0) from rfl)
        have y7 := (y1 2).trans (show _ = some (.slice none 0 0) from rfl)
        have HS6 := hide hS6
        clear hb6 hS6 HS5 C6 x1 y1
        go_wp2_with fail
        refine (C7.out _).mono ?_
        rintro e w7 ⟨rfl, hb7⟩
        have HB7 := hide (HS6.out.below hb7).below_
        clear hb7 HS6
        go_wp2_with fail
        go_ret
        exact ⟨rfl, HB7.out⟩
      · have t1 : decide (b < 1) = false := by simp; omega
        have t2 : decide (64 < b) = true := by simp; omega
        clear hz hb hb1
        go_enter Try.func12, Try.ntmps12
        go_wp2_with fail
        refine C1.out.mono ?_
        rintro e w1 ⟨rfl, hb1⟩
        obtain ⟨g1, hg1⟩ : ∃ g, w1.heap.size = g := ⟨_, rfl⟩
        have hS1 := (HS0.out.below hb1).blkAt 90 #[.slice none 0 0, .slice none 0 0, .slice none 0 0] hg1
        obtain ⟨b1, b2, b3, b4⟩ := hS1.rules 0 (g := g) (t := 27) rfl
        have b5 := (b1 0).trans (show _ = some (.slice AO nO cO) from rfl)
        have b6 := (b1 1).trans (show _ = some (.slice AR nR cR) from rfl)
        have C4 := hide (C4.out _ hS1.below_)
        have HS1 := hide hS1
        clear hb1 hS1 HS0 C1 a2 a3 a5 a6 b4 b1
        go_wp2_with fail
        refine C4.out.mono ?_
        rintro e w4 ⟨rfl, hb4⟩
        obtain ⟨g4, hg4⟩ : ∃ g, w4.heap.size = g := ⟨_, rfl⟩
        have hS4 := (HS1.out.below hb4).blkAt 90 #[.slice none 0 0, .slice none 0 0, .slice none 0 0] hg4
        obtain ⟨x1, x2, x3, _⟩ := hS4.rules 1 (g := g1) (t := 90) rfl
        obtain ⟨y1, y2, y3, _⟩ := hS4.rules 2 (g := g4) (t := 90) rfl
        have x5 := (x1 0).trans (show _ = some (.slice none 0 0) from rfl)
        have x6 := (x1 1).trans (show _ = some (.slice none 0 0) from rfl)
        have x7 := (x1 2).trans (show _ = some (.slice none 0 0) from rfl)
        have y5 := (y1 0).trans (show _ = some (.slice none 0 0) from rfl)
        have y6 := (y1 1).trans (show _ = some (.slice none 0 0) from rfl)
        have y7 := (y1 2).trans (show _ = some (.slice none 0 0) from rfl)
        have HS4 := hide hS4
        clear hb4 hS4 HS1 C4 b2 b3 b5 b6 x1 y1
        go_wp2_with fail
        refine (C5.out _).mono ?_
        rintro e w5 ⟨rfl, hb5⟩
        have hS5 := HS4.out.below hb5
        obtain ⟨x1, x2, x3, _⟩ := hS5.rules 1 (g := g1) (t := 90) rfl
        obtain ⟨y1, y2, y3, _⟩ := hS5.rules 2 (g := g4) (t := 90) rfl
        have x6 := (x1 1).trans (show _ = some (.slice none 0 0) from rfl)
        have x7 := (x1 2).trans (show _ = some (.slice none 0 0) from rfl)
        have y6 := (y1 1).trans (show _ = some (.slice none 0 0) from rfl)
        have y7 := (y1 2).trans (show _ = some (.slice none 0 0) from rfl)
        have HS5 := hide hS5
        clear hb5 hS5 HS4 C5 x1 y1
        go_wp2_with fail
        refine (C6.out _).mono ?_
        rintro e w6 ⟨rfl, hb6⟩
        have hS6 := HS5.out.below hb6
        obtain ⟨x1, x2, x3, _⟩ := hS6.rules 1 (g := g1) (t := 90) rfl
        obtain ⟨y1, y2, y3, _⟩ := hS6.rules 2 (g := g4) (t := 90) rfl
        have x7 := (x1 2).trans (show _ = some (.slice none 0 0) from rfl)
        have y7 := (y1 2).trans (show _ = some (.slice none 0 0) from rfl)
        have HS6 := hide hS6
        clear hb6 hS6 HS5 C6 x1 y1
        go_wp2_with fail
        refine (C7.out _).mono ?_
        rintro e w7 ⟨rfl, hb7⟩
        have HB7 := hide (HS6.out.below hb7).below_
        clear hb7 HS6
        go_wp2_with fail
        go_ret
        exact ⟨rfl, HB7.out⟩
    · simp only [if_neg hb] at C1
      rw [if_neg hb] at hz
      have hnd : 100 < nd := by
        rcases Nat.lt_or_ge 100 nd with h | h
        · exact h
        · rw [if_neg (by omega)] at hz; exact absurd rfl hz
      simp only [if_pos hnd] at C1
      have t1 : decide (b < 1) = false := by simp; omega
      have t2 : decide (64 < b) = false := by simp; omega
      have t3 : decide ((100 : Int) < (nd : Int)) = true := by simp; omega
      have t4 : decide (100 < nd) = true := by simp; omega
      clear hz hb hnd
      go_enter Try.func12, Try.ntmps12
      go_wp2_with fail
      refine C1.out.mono ?_
      rintro e w1 ⟨rfl, hb1⟩
      obtain ⟨g1, hg1⟩ : ∃ g, w1.heap.size = g := ⟨_, rfl⟩
      have hS1 := (HS0.out.below hb1).blkAt 90 #[.slice none 0 0, .slice none 0 0, .slice none 0 0] hg1
      obtain ⟨b1, b2, b3, b4⟩ := hS1.rules 0 (g := g) (t := 27) rfl
      have b5 := (b1 0).trans (show _ = some (.slice AO nO cO) from rfl)
      have b6 := (b1 1).trans (show _ = some (.slice AR nR cR) from rfl)
      have C4 := hide (C4.out _ hS1.below_)
      have HS1 := hide hS1
      clear hb1 hS1 HS0 C1 a2 a3 a5 a6 b4 b1
      go_wp2_with fail
      refine C4.out.mono ?_
      rintro e w4 ⟨rfl, hb4⟩
      obtain ⟨g4, hg4⟩ : ∃ g, w4.heap.size = g := ⟨_, rfl⟩
      have hS4 := (HS1.out.below hb4).blkAt 90 #[.slice none 0 0, .slice none 0 0, .slice none 0 0] hg4
      obtain ⟨x1, x2, x3, _⟩ := hS4.rules 1 (g := g1) (t := 90) rfl
      obtain ⟨y1, y2, y3, _⟩ := hS4.rules 2 (g := g4) (t := 90) rfl
      have x5 := (x1 0).trans (show _ = some (.slice none 0 0) from rfl)
      have x6 := (x1 1).trans (show _ = some (.slice none 0 0) from rfl)
      have x7 := (x1 2).trans (show _ = some (.slice none 0 0) from rfl)
      have y5 := (y1 0).trans (show _ = some (.slice none 0 0) from rfl)
      have y6 := (y1 1).trans (show _ = some (.slice none 0 0) from rfl)
      have y7 := (y1 2).trans (show _ = some (.slice none 0 0) from rfl)
      have HS4 := hide hS4
      clear hb4 hS4 HS1 C4 b2 b3 b5 b6 x1 y1
      go_wp2_with fail
      refine (C5.out _).mono ?_
      rintro e w5 ⟨rfl, hb5⟩
      have hS5 := HS4.out.below hb5
      obtain ⟨x1, x2, x3, _⟩ := hS5.rules 1 (g := g1) (t := 90) rfl
      obtain ⟨y1, y2, y3, _⟩ := hS5.rules 2 (g := g4) (t := 90) rfl
      have x6 := (x1 1).trans (show _ = some (.slice none 0 0) from rfl)
      have x7 := (x1 2).trans (show _ = some (.slice none 0 0) from rfl)
      have y6 := (y1 1).trans (show _ = some (.slice none 0 0) from rfl)
      have y7 := (y1 2).trans (show _ = some (.slice none 0 0) from rfl)
      have HS5 := hide hS5
      clear hb5 hS5 HS4 C5 x1 y1
      go_wp2_with fail
      refine (C6.out _).mono ?_
      rintro e w6 ⟨rfl, hb6⟩
      have hS6 := HS5.out.below hb6
      obtain ⟨x1, x2, x3, _⟩ := hS6.rules 1 (g := g1) (t := 90) rfl
      obtain ⟨y1, y2, y3, _⟩ := hS6.rules 2 (g := g4) (t := 90) rfl
      have x7 := (x1 2).trans (show _ = some (.slice none 0 0) from rfl)
      have y7 := (y1 2).trans (show _ = some (.slice none 0 0) from rfl)
      have HS6 := hide hS6
      clear hb6 hS6 HS5 C6 x1 y1
      go_wp2_with fail
      refine (C7.out _).mono ?_
      rintro e w7 ⟨rfl, hb7⟩
      have HB7 := hide (HS6.out.below hb7).below_
      clear hb7 HS6
      go_wp2_with fail
      go_ret
      exact ⟨rfl, HB7.out⟩
  · simp only [if_pos h0] at C1
    have y8 : (x == 0) = false := by simp [h0]
    clear hz h0
    go_enter Try.func12, Try.ntmps12
    go_wp2_with fail
    refine C1.out.mono ?_
    rintro e w1 ⟨rfl, hb1⟩
    obtain ⟨g1, hg1⟩ : ∃ g, w1.heap.size = g := ⟨_, rfl⟩
    have hS1 := (HS0.out.below hb1).blkAt 90 #[.slice none 0 0, .slice none 0 0, .slice none 0 0] hg1
    obtain ⟨b1, b2, b3, b4⟩ := hS1.rules 0 (g := g) (t := 27) rfl
    have b5 := (b1 0).trans (show _ = some (.slice AO nO cO) from rfl)
    have b6 := (b1 1).trans (show _ = some (.slice AR nR cR) from rfl)
    have C4 := hide (C4.out _ hS1.below_)
    have HS1 := hide hS1
    clear hb1 hS1 HS0 C1 a2 a3 a5 a6 b4 b1
    go_wp2_with fail
    refine C4.out.mono ?_
    rintro e w4 ⟨rfl, hb4⟩
    obtain ⟨g4, hg4⟩ : ∃ g, w4.heap.size = g := ⟨_, rfl⟩
    have hS4 := (HS1.out.below hb4).blkAt 90 #[.slice none 0 0, .slice none 0 0, .slice none 0 0] hg4
    obtain ⟨x1, x2, x3, _⟩ := hS4.rules 1 (g := g1) (t := 90) rfl
    obtain ⟨y1, y2, y3, _⟩ := hS4.rules 2 (g := g4) (t := 90) rfl
    have x5 := (x1 0).trans (show _ = some (.slice none 0 0) from rfl)
    have x6 := (x1 1).trans (show _ = some (.slice none 0 0) from rfl)
    have x7 := (x1 2).trans (show _ = some (.slice none 0 0) from rfl)
    have y5 := (y1 0).trans (show _ = some (.slice none 0 0) from rfl)
    have y6 := (y1 1).trans (show _ = some (.slice none 0 0) from rfl)
    have y7 := (y1 2).trans (show _ = some (.slice none 0 0) from rfl)
    have HS4 := hide hS4
    clear hb4 hS4 HS1 C4 b2 b3 b5 b6 x1 y1
    go_wp2_with fail
    refine (C5.out _).mono ?_
    rintro e w5 ⟨rfl, hb5⟩
    have hS5 := HS4.out.below hb5
    obtain ⟨x1, x2, x3, _⟩ := hS5.rules 1 (g := g1) (t := 90) rfl
    obtain ⟨y1, y2, y3, _⟩ := hS5.rules 2 (g := g4) (t := 90) rfl
    have x6 := (x1 1).trans (show _ = some (.slice none 0 0) from rfl)
    have x7 := (x1 2).trans (show _ = some (.slice none 0 0) from rfl)
    have y6 := (y1 1).trans (show _ = some (.slice none 0 0) from rfl)
    have y7 := (y1 2).trans (show _ = some (.slice none 0 0) from rfl)
    have HS5 := hide hS5
    clear hb5 hS5 HS4 C5 x1 y1
    go_wp2_with fail
    refine (C6.out _).mono ?_
    rintro e w6 ⟨rfl, hb6⟩
    have hS6 := HS5.out.below hb6
    obtain ⟨x1, x2, x3, _⟩ := hS6.rules 1 (g := g1) (t := 90) rfl
    obtain ⟨y1, y2, y3, _⟩ := hS6.rules 2 (g := g4) (t := 90) rfl
    have x7 := (x1 2).trans (show _ = some (.slice none 0 0) from rfl)
    have y7 := (y1 2).trans (show _ = some (.slice none 0 0) from rfl)
    have HS6 := hide hS6
    clear hb6 hS6 HS5 C6 x1 y1
    go_wp2_with fail
    refine (C7.out _).mono ?_
    rintro e w7 ⟨rfl, hb7⟩
    have HB7 := hide (HS6.out.below hb7).below_
    clear hb7 HS6
    go_wp2_with fail
    go_ret
    exact ⟨rfl, HB7.out⟩
end Go.Proofs.Ytjphckfbbiehdaa

namespace Go.Proofs.Ytjphckfbbiehdaa
open Go.RowKit
def gnStp (room : Nat) (p : List OutV × GnA) (d : DoV) : List OutV × GnA := (p.1 ++ [(gnStep room d p.2).1], (gnStep room d p.2).2)
def gnRun (room : Nat) (ds : List DoV) (a : GnA) : List OutV × GnA := ds.foldl (gnStp room) ([], a)
def gn0 (σ : MSt) : GnA := ⟨σ.regs, σ.objs.map some, List.replicate σ.objs.length true, []⟩
theorem gnRun_snoc (room : Nat) (ds : List DoV) (d : DoV) (a : GnA) : gnRun room (ds ++ [d]) a = ((gnRun room ds a).1 ++ [(gnStep room d (gnRun room ds a).2).1], (gnStep room d (gnRun room ds a).2).2) := by
  unfold gnRun; rw [List.foldl_append]; rfl
theorem gnRun_len (room : Nat) (a : GnA) (ds : List DoV) : (gnRun room ds a).1.length = ds.length := by
  have key : ∀ r : List DoV, (gnRun room r.reverse a).1.length = r.reverse.length := by
    intro r
    induction r with
    | nil => rfl
    | cons d r ih => rw [List.reverse_cons, gnRun_snoc, List.length_append, List.length_append, ih]; rfl
  have h := key ds.reverse
  rwa [List.reverse_reverse] at h
theorem gnRun_at (room : Nat) (ds : List DoV) (a : GnA) (k : Nat) (hk : k < ds.length) : gnRun room (ds.take (k + 1)) a = ((gnRun room (ds.take k) a).1 ++ [(gnStep room ds[k] (gnRun room (ds.take k) a).2).1], (gnStep room ds[k] (gnRun room (ds.take k) a).2).2) := by
  rw [List.take_succ_eq_append_getElem hk, gnRun_snoc]
def grStp (room : Nat) (p : List OutV × GrA) (d : DoV) : List OutV × GrA := (p.1 ++ [(grStep room d p.2).1], (grStep room d p.2).2)
def grRun (room : Nat) (ds : List DoV) (r : GrA) : List OutV × GrA := ds.foldl (grStp room) ([], r)
def gr0 (σ : MSt) : GrA := ⟨σ, List.replicate σ.objs.length true, List.replicate σ.objs.length false, []⟩
theorem grRun_snoc (room : Nat) (ds : List DoV) (d : DoV) (a : GrA) : grRun room (ds ++ [d]) a = ((grRun room ds a).1 ++ [(grStep room d (grRun room ds a).2).1], (grStep room d (grRun room ds a).2).2) := by
  unfold grRun; rw [List.foldl_append]; rfl
theorem grRun_at (room : Nat) (ds : List DoV) (a : GrA) (k : Nat) (hk : k < ds.length) : grRun room (ds.take (k + 1)) a = ((grRun room (ds.take k) a).1 ++ [(grStep room ds[k] (grRun room (ds.take k) a).2).1], (grStep room ds[k] (grRun room (ds.take k) a).2).2) := by
  rw [List.take_succ_eq_append_getElem hk, grRun_snoc]
/-- How it begins. -/
theorem gn0_fld (σ : MSt) (i : Nat) (fs : List Val) : (gn0 σ).fld i = some fs ↔ σ.objs[i]? = some fs := by
  rw [GnA.fld_iff]
  unfold gn0
  rw [List.getElem?_map]
  cases σ.objs[i]? <;> simp
theorem gn0_od (σ : MSt) (i : Nat) (h : i < σ.objs.length) : (gn0 σ).od i = true := rep_gd h
theorem gn0_sim {σ : MSt} (h : MOk σ) : GrSim (gn0 σ) (gr0 σ) := by
  have hl : (gn0 σ).objs.length = σ.objs.length := List.length_map ..
  have hvk : ∀ v : Val, (v.1 = true → 0 ≤ v.2 ∧ v.2 < (σ.objs.length : Int)) → (gn0 σ).vok v := fun v hv h1 => by
    obtain ⟨h2, h3⟩ := hv h1
    obtain ⟨i, hi⟩ := int_nat h2
    have hil : i < σ.objs.length := by omega
    exact ⟨i, σ.objs[i], hi, (gn0_fld σ i _).2 (List.getElem?_eq_getElem hil)⟩
  have hlt : ∀ {i : Nat} {fs : List Val}, (gn0 σ).fld i = some fs → i < σ.objs.length := fun hf => by have := GnA.fld_lt hf; omega
  have hm : ∀ {i : Nat} {fs : List Val}, (gn0 σ).fld i = some fs → fs ∈ σ.objs := fun hf => List.mem_of_getElem? ((gn0_fld σ _ _).1 hf)
  refine ⟨⟨h.r8, ?_, fun v hv => hvk v (h.vr v hv), fun i fs v hf hv => hvk v (h.vo fs (hm hf) v hv), fun i fs hf => h.f4 fs (hm hf), fun p hp => absurd hp (by simp [gn0]), by simp [gn0], ?_⟩, h, ⟨rfl, hl, fun i fs hf => (gn0_fld σ i fs).1 hf⟩, ?_, ?_, fun i hi => ?_, fun i fs hf => ?_, fun i hi hf => ?_, rfl⟩
  · show (List.replicate _ _).length = _; rw [List.length_replicate, hl]
  · intro i fs k j hf _ hk hj
    exfalso
    obtain ⟨h1, h2⟩ := h.vo fs (hm hf) _ (List.mem_of_getElem? hk) rfl
    dsimp only at h2
    rw [gn0_od σ j (by omega)] at hj
    cases hj
  · show (List.replicate _ _).length = _; rw [List.length_replicate, hl]
  · show (List.replicate _ _).length = _; rw [List.length_replicate, hl]
  · rw [hl] at hi
    rw [(gn0_fld σ i _).2 (List.getElem?_eq_getElem hi)]
    show (List.replicate _ false).getD i false = false
    rw [List.getD_eq_getElem?_getD, List.getElem?_replicate, if_pos hi]; rfl
  · rfl
  · rw [hl] at hi
    rw [(gn0_fld σ i _).2 (List.getElem?_eq_getElem hi)] at hf
    cases hf
theorem gn_run {σ : MSt} (h : MOk σ) (room : Nat) (ds : List DoV) : (gnRun room ds (gn0 σ)).1 = (grRun room ds (gr0 σ)).1 ∧ GrSim (gnRun room ds (gn0 σ)).2 (grRun room ds (gr0 σ)).2 := by
  have key : ∀ r : List DoV, (gnRun room r.reverse (gn0 σ)).1 = (grRun room r.reverse (gr0 σ)).1 ∧ GrSim (gnRun room r.reverse (gn0 σ)).2 (grRun room r.reverse (gr0 σ)).2 := by
    intro r
    induction r with
    | nil => exact ⟨rfl, gn0_sim h⟩
    | cons d r ih =>
      rw [List.reverse_cons, gnRun_snoc, grRun_snoc]
      obtain ⟨h1, h2⟩ := ih
      obtain ⟨h3, h4⟩ := h2.step room d
      exact ⟨by rw [h1, h3], h4⟩
  have h := key ds.reverse
  rwa [List.reverse_reverse] at h
/-- How many there are at most. -/
theorem gnStep_len (room : Nat) (d : DoV) (a : GnA) : (gnStep room d a).2.objs.length ≤ a.objs.length + 1 := by
  have hd : ∀ K : Nat → Bool, (dropK K a.objs).length = a.objs.length := fun K => dropK_len K a.objs
  unfold gnStep
  split
  · show (dropK _ _).length ≤ _; rw [hd]; omega
  split
  · show (dropK _ _).length ≤ _; rw [hd]; omega
  unfold gnDo
  split
  · exact Nat.le_succ _
  unfold gnKst
  have hr := gnRoom_len room a
  split
  · have hN : (gnNew room a d.n.toNat).1.objs.length ≤ a.objs.length + 1 := by
      unfold gnNew
      split
      · dsimp only; omega
      · show ((gnRoom room a).objs ++ [_]).length ≤ _; rw [List.length_append, hr]; exact Nat.le_refl _
    split
    · exact hN
    · exact hN
  split
  · exact Nat.le_succ _
  split
  · exact Nat.le_succ _
  split
  · split
    · exact Nat.le_succ _
    · show (a.objs.set _ _).length ≤ _; rw [List.length_set]; exact Nat.le_succ _
  split
  · split
    · exact Nat.le_succ _
    · exact Nat.le_succ _
  split
  · exact Nat.le_succ _
  · exact Nat.le_succ _
theorem gnRun_b (room : Nat) (a : GnA) (ds : List DoV) : (gnRun room ds a).2.objs.length ≤ a.objs.length + ds.length := by
  have key : ∀ r : List DoV, (gnRun room r.reverse a).2.objs.length ≤ a.objs.length + r.reverse.length := by
    intro r
    induction r with
    | nil => exact Nat.le_refl _
    | cons d r ih =>
      rw [List.reverse_cons, gnRun_snoc, List.length_append, List.length_singleton]
      have h := gnStep_len room d (gnRun room r.reverse a).2
      dsimp only
      omega
  have h := key ds.reverse
  rwa [List.reverse_reverse] at h
theorem gn_at {σ : MSt} (h : MOk σ) (room : Nat) (ds : List DoV) (hn : σ.objs.length ≤ 24) (hd : ds.length ≤ 100) (k : Nat) (hk : k ≤ ds.length) : GnOk (gnRun room (ds.take k) (gn0 σ)).2 ∧ (gnRun room (ds.take k) (gn0 σ)).2.objs.length ≤ 124 := by
  refine ⟨(gn_run h room _).2.ok, ?_⟩
  have h1 := gnRun_b room (gn0 σ) (ds.take k)
  have h2 : (gn0 σ).objs.length = σ.objs.length := List.length_map ..
  have h3 : (ds.take k).length = k := by rw [List.length_take]; omega
  omega
/-- Which are there, and how old. -/
def gnThere (a : GnA) : List (Int × Int) := (thereL a.objs).map fun x => (x, if a.od x.toNat = true then 1 else 0)
def gnMks (a : GnA) : List (Int × Int) := a.mks.map fun p => ((p.1 : Int), (p.2 : Int))
end Go.Proofs.Ytjphckfbbiehdaa

namespace Go.Proofs.Ytjphckfbbiehdaa
open Go.RowKit
/-- A made block is a row. -/
theorem rowI_of_blk {w : World} {g t size n : Nat} {cs : Array Value} (h : Blk w g t cs) (hs : cs.size = n * size) (hm : n ≤ maxLen) : (rowI t size (some ⟨g, 0, none⟩) n n cs.toList).P w :=
  ⟨by rw [Array.length_toList, hs], .inr ⟨g, n, cs, rfl, Nat.zero_le _, h, Nat.le_refl _, hm, hs, by rw [List.take_of_length_le (by rw [Array.length_toList]; omega)]⟩⟩
theorem raddr0 (g j : Nat) : (⟨g, 0, none⟩ : Addr).add j = ⟨g, j, none⟩ := by
  unfold Addr.add; split <;> simp_all
set_option maxHeartbeats 6400000 in
theorem rmul64 (w : World) (N : Nat) (h1 : N ≤ 24) :
    Calls Try.prog 179 #[.int .u64 1, .int .u64 N] w fun e w' => e = .returned (.tuple #[.int .u64 0, .int .u64 N]) ∧ w' = w := by
  rcases (show N = 0 ∨ N = 1 ∨ N = 2 ∨ N = 3 ∨ N = 4 ∨ N = 5 ∨ N = 6 ∨ N = 7 ∨ N = 8 ∨ N = 9 ∨ N = 10 ∨ N = 11 ∨ N = 12 ∨ N = 13 ∨ N = 14 ∨ N = 15 ∨ N = 16 ∨ N = 17 ∨ N = 18 ∨ N = 19 ∨ N = 20 ∨ N = 21 ∨ N = 22 ∨ N = 23 ∨ N = 24 from by omega) with rfl | rfl | rfl | rfl | rfl | rfl | rfl | rfl | rfl | rfl | rfl | rfl | rfl | rfl | rfl | rfl | rfl | rfl | rfl | rfl | rfl | rfl | rfl | rfl | rfl
  all_goals
    go_enter Try.func179, Try.ntmps179
    go_wp2_with fail
    refine bodyPost_ret (v := .tuple #[.int .u64 0, _]) (by simp [results, Try.results179, go_sem]; rfl) rfl ⟨rfl, rfl⟩
set_option maxHeartbeats 1600000 in
theorem rmul_any (w : World) (N : Nat) (h1 : N ≤ 24) :
    Calls Try.prog 145 #[.int .u64 1, .int .u64 N] w fun e w' => e = .returned (.tuple #[.int .u64 0, .int .u64 N]) ∧ w' = w := by
  go_enter Try.func145, Try.ntmps145
  go_wp2_with fail
  refine (rmul64 w N h1).mono ?_
  rintro e w1 ⟨rfl, rfl⟩
  go_wp2_with fail
  refine bodyPost_ret (v := .tuple #[.int .u64 0, .int .u64 N]) (by simp [results, Try.results145, go_sem]) rfl ⟨rfl, rfl⟩
theorem rblk_of_row {w : World} {base g t n : Nat} {xs : List Value} (h : w.ownsRow base t 1 (.slice (some ⟨g, 0, none⟩) n n) n xs) : Blk w g t xs.toArray := by
  obtain ⟨h1, h2⟩ := h
  rcases h2 with ⟨h0, _⟩ | ⟨g', cap', cur, hv, hg, hh, hn, hcap, hsz, htake⟩
  · cases h0
  · cases hv
    have : xs.toArray = cur := by
      rw [← htake, List.take_of_length_le (by simp [hsz])]
    rw [this]; exact hh
end Go.Proofs.Ytjphckfbbiehdaa
