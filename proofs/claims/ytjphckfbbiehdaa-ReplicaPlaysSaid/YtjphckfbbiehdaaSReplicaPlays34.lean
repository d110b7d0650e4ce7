/- A machine's first registers, on. A memory that is copied: a script that may not be. The walk of the law on a memory that is copied, where something is wrong. A memory that is copied: a step, as a machine's; how a script begins, in memory. The reference's Ideal: a script on its memory. -/
import Derived.Test.YtjphckfbbiehdaaSReplicaPlays33
import Derived.Laws.Rows
import Derived.Laws.Tables
import Derived.Test.YtjphckfbbiehdaaSReplicaPlays12
import Derived.Test.YtjphckfbbiehdaaSReplicaPlays2
import Derived.Test.YtjphckfbbiehdaaSReplicaPlays4
import Derived.Test.YtjphckfbbiehdaaSReplicaPlays13
set_option linter.unusedSimpArgs false
set_option linter.unusedVariables false
namespace Go.Proofs.Ytjphckfbbiehdaa
open Go.RowKit
theorem first_cells (nR : Nat) (roots : List Val) (hl : roots.length = nR) (h8 : nR ≤ 8) : ((vals (zeroVs 8)).toArray.toList.take 0 ++ vals roots ++ (vals (zeroVs 8)).toArray.toList.drop (0 + (vals roots).length)) = vals (padR roots nR) := by
  rw [vals_length, hl, Nat.zero_add]
  unfold padR
  rw [List.take_zero, List.nil_append, List.take_of_length_le (by omega), vals_app, ← vals_rep nR h8]
theorem padR_zero (l : List Val) (h : l.length = 0) : padR l 0 = zeroVs 8 := by
  cases l with
  | nil => rfl
  | cons a l => simp at h
set_option maxRecDepth 100000 in
set_option maxHeartbeats 8000000 in
theorem heapFirst_any (w : World) (AO AR : Option Addr) (nO cO nR cR : Nat) (roots : List Val) (hR : Rd w (fun _ => True) 2 AR nR (vals roots)) (hnR : nR ≤ 8) :
    Calls Try.prog 72 #[.agg #[.slice AO nO cO, .slice AR nR cR]] w fun e w' => e = .returned (.agg (vals (padR roots nR)).toArray) ∧ Below w.heap.size w w' := by
  have hrl : roots.length = nR := by have := hR.1; rw [vals_length] at this; omega
  obtain ⟨g, hg⟩ : ∃ g, w.heap.size = g := ⟨_, rfl⟩
  have hmx : Try.prog.follows .mixedOrders = true := by kernel_rfl
  have hS0 := (((Sep.nil No w).blkAt 27 #[.slice AO nO cO, .slice AR nR cR] hg).blkAt 109 (vals (zeroVs 8)).toArray (g := g + 1) (by simp [hg])).blkAt 109 (vals (zeroVs 8)).toArray (g := g + 1 + 1) (by simp [hg])
  have hlit : (vals (zeroVs 8)).toArray = #[.bool false, .int .i64 0, .bool false, .int .i64 0, .bool false, .int .i64 0, .bool false, .int .i64 0, .bool false, .int .i64 0, .bool false, .int .i64 0, .bool false, .int .i64 0, .bool false, .int .i64 0] := rfl
  rw [hlit] at hS0
  obtain ⟨W, hW⟩ : ∃ X, ((w.alloc (.cells #[.slice AO nO cO, .slice AR nR cR] 27)).alloc (.cells #[.bool false, .int .i64 0, .bool false, .int .i64 0, .bool false, .int .i64 0, .bool false, .int .i64 0, .bool false, .int .i64 0, .bool false, .int .i64 0, .bool false, .int .i64 0, .bool false, .int .i64 0] 109)).alloc (.cells #[.bool false, .int .i64 0, .bool false, .int .i64 0, .bool false, .int .i64 0, .bool false, .int .i64 0, .bool false, .int .i64 0, .bool false, .int .i64 0, .bool false, .int .i64 0, .bool false, .int .i64 0] 109) = X := ⟨_, rfl⟩
  rw [hW] at hS0
  have hb := hS0.below_
  obtain ⟨a1, _, a3, _⟩ := hS0.rules 0 (g := g) (t := 27) rfl
  have a5 := (a1 1).trans (show _ = some (.slice AR nR cR) from rfl)
  obtain ⟨W', hcp, hS2⟩ : ∃ W', (Builtin.copy_ #[25, 25] 3 #[.slice (some ⟨g + 1 + 1, 0, none⟩) 8 8, .slice AR nR cR]).run Try.prog W.drew = .ok (goInt nR) W' ∧ Sep No w W' [blkI g 27 #[.slice AO nO cO, .slice AR nR cR], blkI (g + 1) 109 (vals (zeroVs 8)).toArray, blkI (g + 1 + 1) 109 (vals (padR roots nR)).toArray] := by
    rw [← hlit] at hS0
    rcases Nat.eq_zero_or_pos nR with h0 | h0
    · subst h0
      refine ⟨W.drew, run_copy_noneN W.drew 25 25 3 107 2 8 8 cR _ AR Try.underlying25 vSize, ?_⟩
      rw [padR_zero roots hrl]
      exact hS0.drew
    · obtain ⟨ad, hA, _, _, hc⟩ := (hR.below hb).2 h0
      subst hA
      have hB : Blk W (g + 1 + 1) 109 (vals (zeroVs 8)).toArray := hS0.get 2 rfl
      have hvl := vals_length roots
      have hz : (vals (zeroVs 8)).length = 16 := vals_length _
      have hrun := run_copy_rowN (P := Try.prog) W.drew 25 25 3 107 2 nR (g + 1 + 1) 0 8 8 ad nR cR (vals (zeroVs 8)).toArray 109 (vals roots) Try.underlying25 vSize hB (Nat.min_eq_left hnR) (by omega) hc (by rw [List.size_toArray]; omega) (fun v hv => by
        unfold vals at hv
        obtain ⟨x, _, hx⟩ := List.mem_flatMap.1 hv
        rcases List.mem_cons.1 hx with rfl | hx
        · rfl
        · rw [List.mem_singleton.1 hx]; rfl)
      rw [first_cells nR roots hrl hnR] at hrun
      refine ⟨_, hrun, ?_⟩
      have hst := hS0.drew.step 2 rfl (w' := W.drew.setRow (g + 1 + 1) (vals (padR roots nR)).toArray) ⟨rfl, rfl, rfl, by simp [World.setRow], fun k _ hk => setRow_other _ _ _ _ (fun e => hk e)⟩ (blkI (g + 1 + 1) 109 (vals (padR roots nR)).toArray) (setRow_heap _ _ _ _ _ _ hB) (fun _ h => .inl h)
      exact hst
  have hpl := padR_len roots nR (by omega) hnR
  have hi16 : (Try.prog.info? 109).map (·.size) = some 16 := by kernel_rfl
  have hcs : (vals (padR roots nR)).toArray.size = 16 := by rw [List.size_toArray, vals_length, hpl]
  have hone : (vals (padR roots nR)).toArray.all (·.oneCell') = true := by
    rw [List.all_toArray]
    unfold vals
    rw [List.all_flatMap]
    simp [Value.oneCell']
  obtain ⟨CS, hCS⟩ : ∃ c, (vals (padR roots nR)).toArray = c := ⟨_, rfl⟩
  rw [hCS] at hS2 hcs hone ⊢
  have hB1 : Blk W' (g + 1) 109 (vals (zeroVs 8)).toArray := hS2.get 1 rfl
  have hB2 : Blk W' (g + 1 + 1) 109 CS := hS2.get 2 rfl
  have hZ : (vals (zeroVs 8)).toArray.size = CS.size := by rw [hcs]; rfl
  rw [← hcs] at hi16
  have HB1 := hide hB1
  have HB2 := hide hB2
  have HS2 := hide hS2
  have HI := hide hi16
  have HZ := hide hZ
  have HO := hide hone
  clear hS0 hb hS2 a1 hpl hB1 hB2 hcs hi16 hZ hone hCS hR hrl
  go_enter Try.func72, Try.ntmps72
  go_wp2_with fail
  clear hW
  go_still_tail 3, hmx
  go_wp2_with (first
    | (refine wpList_load_row rfl 109 (.tmp 3) rfl (g + 1 + 1) rfl 109 CS (0, 0) _ HB2.out Try.underlying109 rfl HI.out ?_)
    | (refine wpList_store_row rfl 109 (.tmp 2) (.tmp 8) rfl (g + 1) CS rfl rfl 109 (vals (zeroVs 8)).toArray HB1.out HI.out HZ.out HO.out ?_))
  have hF := setRow_heap W' (g + 1) _ CS _ _ HB1.out
  have hb2 : Below w.heap.size w (W'.setRow (g + 1) CS) := below_setRow HS2.out.below_ (by omega) CS
  refine bodyPost_ret (v := .agg CS) (results_cell_row Try.results72 _ _ (g + 1) 109 CS (0, 0) _ rfl hF Try.underlying109 rfl HI.out) rfl ⟨rfl, hb2⟩
end Go.Proofs.Ytjphckfbbiehdaa

namespace Go.Proofs.Ytjphckfbbiehdaa
open Go.RowKit
def repErr (nO nR nd : Nat) (obs : List Ob) (roots : List Val) : Int := if gcheck nO nR obs roots ≠ 0 then gcheck nO nR obs roots else if 100 < nd then 1 else 0
set_option maxRecDepth 100000 in
set_option maxHeartbeats 8000000 in
theorem repPlay_no (w : World) (AO AR Ad : Option Addr) (nO cO nR cR nd cd : Nat) (obs : List Ob) (roots : List Val) (hO : ObsRd w (fun _ => True) AO nO obs) (hR : Rd w (fun _ => True) 2 AR nR (vals roots)) (hz : repErr nO nR nd obs roots ≠ 0) :
    Calls Try.prog 36 #[.agg #[.slice AO nO cO, .slice AR nR cR], .slice Ad nd cd] w fun e w' => e = .returned (.tuple #[.agg #[.slice none 0 0, .slice none 0 0, .int .i64 0, .int .i64 0, .int .i64 0], .int .i64 (repErr nO nR nd obs roots)]) ∧ Below w.heap.size w w' := by
  obtain ⟨g, hg⟩ : ∃ g, w.heap.size = g := ⟨_, rfl⟩
  have hS0 := ((Sep.nil No w).blkAt 27 #[.slice AO nO cO, .slice AR nR cR] hg).blkAt 85 #[.slice none 0 0, .slice none 0 0, .int .i64 0, .int .i64 0, .int .i64 0] (g := g + 1) (by simp [hg])
  have C1 := hide (graphCheck_any _ AO AR nO cO nR cR obs roots (hO.below hS0.below_) (hR.below hS0.below_))
  obtain ⟨a1, a2, a3, a4⟩ := hS0.rules 0 (g := g) (t := 27) rfl
  have HS0 := hide hS0
  unfold repErr at hz ⊢
  obtain ⟨x, hx⟩ : ∃ x, gcheck nO nR obs roots = x := ⟨_, rfl⟩
  rw [hx] at C1 hz ⊢
  clear hS0 a4 hO hR hx
  by_cases h0 : x = 0
  · subst h0
    rw [if_neg (by simp)] at hz ⊢
    have hnd : 100 < nd := by
      split at hz
      · assumption
      · omega
    rw [if_pos hnd]
    have t3 : decide ((100 : Int) < (nd : Int)) = true := by simp; omega
    have t4 : decide (100 < nd) = true := by simp; omega
    clear hz
    go_enter Try.func36, Try.ntmps36
    go_wp2_with fail
    refine C1.out.mono ?_
    rintro e w1 ⟨rfl, hb1⟩
    have hS2 := HS0.out.below hb1
    obtain ⟨x1, x2, x3, x4⟩ := hS2.rules 1 (g := g + 1) (t := 85) rfl
    have HS2 := hide hS2
    clear hb1 hS2 HS0 C1 a1 a2 a3 x4
    go_wp2_with fail
    have hF := ((((HS2.out.set_ 1 (g := g + 1) (t := 85) rfl 0 (.slice none 0 0)).set_ 1 (g := g + 1) (t := 85) rfl 1 (.slice none 0 0)).set_ 1 (g := g + 1) (t := 85) rfl 2 (.int .i64 0)).set_ 1 (g := g + 1) (t := 85) rfl 3 (.int .i64 0)).set_ 1 (g := g + 1) (t := 85) rfl 4 (.int .i64 0)
    refine bodyPost_ret (v := .tuple #[.agg #[.slice none 0 0, .slice none 0 0, .int .i64 0, .int .i64 0, .int .i64 0], .int .i64 1]) (by simp [results, Try.results36, go_sem, x1]) rfl ⟨rfl, hF.below_⟩
  · rw [if_pos h0]
    have t1 : decide (x = 0) = false := by simp [h0]
    have t2 : (x == 0) = false := by simp [h0]
    have t3 : (x != 0) = true := by simp [h0]
    clear hz
    go_enter Try.func36, Try.ntmps36
    go_wp2_with fail
    refine C1.out.mono ?_
    rintro e w1 ⟨rfl, hb1⟩
    have hS2 := HS0.out.below hb1
    obtain ⟨x1, x2, x3, x4⟩ := hS2.rules 1 (g := g + 1) (t := 85) rfl
    have HS2 := hide hS2
    clear hb1 hS2 HS0 C1 a1 a2 a3 x4
    go_wp2_with fail
    have hF := ((((HS2.out.set_ 1 (g := g + 1) (t := 85) rfl 0 (.slice none 0 0)).set_ 1 (g := g + 1) (t := 85) rfl 1 (.slice none 0 0)).set_ 1 (g := g + 1) (t := 85) rfl 2 (.int .i64 0)).set_ 1 (g := g + 1) (t := 85) rfl 3 (.int .i64 0)).set_ 1 (g := g + 1) (t := 85) rfl 4 (.int .i64 0)
    refine bodyPost_ret (v := .tuple #[.agg #[.slice none 0 0, .slice none 0 0, .int .i64 0, .int .i64 0, .int .i64 0], .int .i64 x]) (by simp [results, Try.results36, go_sem, x1]) rfl ⟨rfl, hF.below_⟩
end Go.Proofs.Ytjphckfbbiehdaa

namespace Go.Proofs.Ytjphckfbbiehdaa
open Go.RowKit
set_option maxRecDepth 100000 in
set_option maxHeartbeats 16000000 in
theorem repPlays_no (w : World) (AO AR Ad : Option Addr) (nO cO nR cR nd cd : Nat) (obs : List Ob) (roots : List Val) (hO : ObsRd w (fun _ => True) AO nO obs) (hR : Rd w (fun _ => True) 2 AR nR (vals roots)) (hz : repErr nO nR nd obs roots ≠ 0) :
    Calls Try.prog 11 #[.agg #[.slice AO nO cO, .slice AR nR cR], .slice Ad nd cd] w fun e w' => e = .returned (.bool true) ∧ Below w.heap.size w w' := by
  obtain ⟨g, hg⟩ : ∃ g, w.heap.size = g := ⟨_, rfl⟩
  have hS0 := (Sep.nil No w).blkAt 27 #[.slice AO nO cO, .slice AR nR cR] hg
  obtain ⟨a1, a2, a3, a4⟩ := hS0.rules 0 (g := g) (t := 27) rfl
  have a5 := (a1 0).trans (show _ = some (.slice AO nO cO) from rfl)
  have a6 := (a1 1).trans (show _ = some (.slice AR nR cR) from rfl)
  have C1 := hide (repPlay_no _ AO AR Ad nO cO nR cR nd cd obs roots (hO.below hS0.below_) (hR.below hS0.below_) hz)
  have C4 := hide (fun w' (hb : Below w.heap.size w w') => refCheck_any w' AO AR nO cO nR cR obs roots (hO.below hb) (hR.below hb))
  have C5 := hide (fun (X : World) => outs_any X none none 0 0 0 [] (by omega) Rd.nil Rd.nil)
  have C7 := hide (fun (X : World) => ints_same X (fun _ => True) (fun _ => True) none none 0 0 0 [] (by omega) Rd.nil Rd.nil)
  have HS0 := hide hS0
  unfold repErr at hz C1
  obtain ⟨x, hx⟩ : ∃ x, gcheck nO nR obs roots = x := ⟨_, rfl⟩
  simp only [hx] at C1 C4
  rw [hx] at hz
  clear hS0 a4 hO hR hx a1
  by_cases h0 : x = 0
  · subst h0
    rw [if_neg (by simp)] at hz
    simp only [ne_eq, not_true_eq_false, if_false] at C1
    have hnd : 100 < nd := by
      rcases Nat.lt_or_ge 100 nd with h | h
      · exact h
      · rw [if_neg (by omega)] at hz; exact absurd rfl hz
    simp only [if_pos hnd] at C1
    have t3 : decide ((100 : Int) < (nd : Int)) = true := by simp; omega
    have t4 : decide (100 < nd) = true := by simp; omega
    clear hz hnd
    go_enter Try.func11, Try.ntmps11
    go_wp2_with fail
    refine C1.out.mono ?_
    rintro e w1 ⟨rfl, hb1⟩
    obtain ⟨g1, hg1⟩ : ∃ g, w1.heap.size = g := ⟨_, rfl⟩
    have hS1 := (HS0.out.below hb1).blkAt 85 #[.slice none 0 0, .slice none 0 0, .int .i64 0, .int .i64 0, .int .i64 0] hg1
    obtain ⟨b1, b2, b3, b4⟩ := hS1.rules 0 (g := g) (t := 27) rfl
    have b5 := (b1 0).trans (show _ = some (.slice AO nO cO) from rfl)
    have b6 := (b1 1).trans (show _ = some (.slice AR nR cR) from rfl)
    have C4 := hide (C4.out _ hS1.below_)
    have HS1 := hide hS1
    clear hb1 hS1 HS0 C1 a2 a3 a5 a6 b4 b1
    go_wp2_with fail
    refine C4.out.mono ?_
    rintro e w4 ⟨rfl, hb4⟩
    obtain ⟨g4, hg4⟩ : ∃ g, w4.heap.size = g := ⟨_, rfl⟩
    have hS4 := (HS1.out.below hb4).blkAt 85 #[.slice none 0 0, .slice none 0 0, .int .i64 0, .int .i64 0, .int .i64 0] hg4
    obtain ⟨x1, x2, x3, _⟩ := hS4.rules 1 (g := g1) (t := 85) rfl
    obtain ⟨y1, y2, y3, _⟩ := hS4.rules 2 (g := g4) (t := 85) rfl
    have x5 := (x1 0).trans (show _ = some (.slice none 0 0) from rfl)
    have y5 := (y1 0).trans (show _ = some (.slice none 0 0) from rfl)
    have HS4 := hide hS4
    clear hb4 hS4 HS1 C4 b2 b3 b5 b6 x1 y1
    go_wp2_with fail
    refine (C5.out _).mono ?_
    rintro e w5 ⟨rfl, hb5⟩
    have hS5 := HS4.out.below hb5
    obtain ⟨x1, x2, x3, _⟩ := hS5.rules 1 (g := g1) (t := 85) rfl
    obtain ⟨y1, y2, y3, _⟩ := hS5.rules 2 (g := g4) (t := 85) rfl
    have x6 := (x1 1).trans (show _ = some (.slice none 0 0) from rfl)
    have y6 := (y1 1).trans (show _ = some (.slice none 0 0) from rfl)
    have HS5 := hide hS5
    clear hb5 hS5 HS4 C5 x1 y1
    go_wp2_with fail
    refine (C7.out _).mono ?_
    rintro e w7 ⟨rfl, hb7⟩
    have hS7 := HS5.out.below hb7
    have HB7 := hide hS7.below_
    obtain ⟨x1, x2, x3, _⟩ := hS7.rules 1 (g := g1) (t := 85) rfl
    obtain ⟨y1, y2, y3, _⟩ := hS7.rules 2 (g := g4) (t := 85) rfl
    have x7 := (x1 2).trans (show _ = some (.int .i64 0) from rfl)
    have x8 := (x1 3).trans (show _ = some (.int .i64 0) from rfl)
    have x9 := (x1 4).trans (show _ = some (.int .i64 0) from rfl)
    have y7 := (y1 2).trans (show _ = some (.int .i64 0) from rfl)
    have y8' := (y1 3).trans (show _ = some (.int .i64 0) from rfl)
    have y9 := (y1 4).trans (show _ = some (.int .i64 0) from rfl)
    clear hb7 hS7 HS5 x1 y1
    go_wp2_with fail
    go_ret
    exact ⟨rfl, HB7.out⟩
  · simp only [if_pos h0] at C1
    have y8 : (x == 0) = false := by simp [h0]
    clear hz h0
    go_enter Try.func11, Try.ntmps11
    go_wp2_with fail
    refine C1.out.mono ?_
    rintro e w1 ⟨rfl, hb1⟩
    obtain ⟨g1, hg1⟩ : ∃ g, w1.heap.size = g := ⟨_, rfl⟩
    have hS1 := (HS0.out.below hb1).blkAt 85 #[.slice none 0 0, .slice none 0 0, .int .i64 0, .int .i64 0, .int .i64 0] hg1
    obtain ⟨b1, b2, b3, b4⟩ := hS1.rules 0 (g := g) (t := 27) rfl
    have b5 := (b1 0).trans (show _ = some (.slice AO nO cO) from rfl)
    have b6 := (b1 1).trans (show _ = some (.slice AR nR cR) from rfl)
    have C4 := hide (C4.out _ hS1.below_)
    have HS1 := hide hS1
    clear hb1 hS1 HS0 C1 a2 a3 a5 a6 b4 b1
    go_wp2_with fail
    refine C4.out.mono ?_
    rintro e w4 ⟨rfl, hb4⟩
    obtain ⟨g4, hg4⟩ : ∃ g, w4.heap.size = g := ⟨_, rfl⟩
    have hS4 := (HS1.out.below hb4).blkAt 85 #[.slice none 0 0, .slice none 0 0, .int .i64 0, .int .i64 0, .int .i64 0] hg4
    obtain ⟨x1, x2, x3, _⟩ := hS4.rules 1 (g := g1) (t := 85) rfl
    obtain ⟨y1, y2, y3, _⟩ := hS4.rules 2 (g := g4) (t := 85) rfl
    have x5 := (x1 0).trans (show _ = some (.slice none 0 0) from rfl)
    have y5 := (y1 0).trans (show _ = some (.slice none 0 0) from rfl)
    have HS4 := hide hS4
    clear hb4 hS4 HS1 C4 b2 b3 b5 b6 x1 y1
    go_wp2_with fail
    refine (C5.out _).mono ?_
    rintro e w5 ⟨rfl, hb5⟩
    have hS5 := HS4.out.below hb5
    obtain ⟨x1, x2, x3, _⟩ := hS5.rules 1 (g := g1) (t := 85) rfl
    obtain ⟨y1, y2, y3, _⟩ := hS5.rules 2 (g := g4) (t := 85) rfl
    have x6 := (x1 1).trans (show _ = some (.slice none 0 0) from rfl)
    have y6 := (y1 1).trans (show _ = some (.slice none 0 0) from rfl)
    have HS5 := hide hS5
    clear hb5 hS5 HS4 C5 x1 y1
    go_wp2_with fail
    refine (C7.out _).mono ?_
    rintro e w7 ⟨rfl, hb7⟩
    have hS7 := HS5.out.below hb7
    have HB7 := hide hS7.below_
    obtain ⟨x1, x2, x3, _⟩ := hS7.rules 1 (g := g1) (t := 85) rfl
    obtain ⟨y1, y2, y3, _⟩ := hS7.rules 2 (g := g4) (t := 85) rfl
    have x7 := (x1 2).trans (show _ = some (.int .i64 0) from rfl)
    have x8 := (x1 3).trans (show _ = some (.int .i64 0) from rfl)
    have x9 := (x1 4).trans (show _ = some (.int .i64 0) from rfl)
    have y7 := (y1 2).trans (show _ = some (.int .i64 0) from rfl)
    have y8' := (y1 3).trans (show _ = some (.int .i64 0) from rfl)
    have y9 := (y1 4).trans (show _ = some (.int .i64 0) from rfl)
    clear hb7 hS7 HS5 x1 y1
    go_wp2_with fail
    go_ret
    exact ⟨rfl, HB7.out⟩
end Go.Proofs.Ytjphckfbbiehdaa

namespace Go.Proofs.Ytjphckfbbiehdaa
open Go.RowKit Go.Maps
theorem work_regs (a : RpA) : a.work.regs = a.regs := by
  unfold RpA.work
  split
  · split
    · exact (bring_keep _ _ _).1
    · rfl
  · split
    · exact (cop_keep _ _).1
    · unfold RpA.fill
      split
      · exact (bringN_keep _ _ _).1
      · rfl
theorem rpwork_km {F : Nat → Prop} {W0 w : World} {Be Bm : Nat} {t : RpT} {L : List Item} (h : Sep F W0 w ((rpKm Bm Be).item t :: L)) (ok : RpOk t.a) (nm : RpNm t.a) (hn : t.a.objs.length ≤ 600) (hl : t.a.log.length ≤ 1000) (ht : t.a.times ≤ 100000) (p0 p1 p2 p3 p4 p5 p6 p7 : Val) (hregs : t.regs = [p0, p1, p2, p3, p4, p5, p6, p7]) :
    Calls Try.prog 84 #[.pointer (some ⟨Be, 0, none⟩), .agg #[.bool p0.1, .int .i64 p0.2, .bool p1.1, .int .i64 p1.2, .bool p2.1, .int .i64 p2.2, .bool p3.1, .int .i64 p3.2, .bool p4.1, .int .i64 p4.2, .bool p5.1, .int .i64 p5.2, .bool p6.1, .int .i64 p6.2, .bool p7.1, .int .i64 p7.2]] w fun e w' => (∃ u, e = .returned u) ∧ ∃ t' : RpT, t'.a = t.a.work ∧ Sep F W0 w' ((rpKm Bm Be).item t' :: L) := by
  refine (rwork_any (x := rpM Be Bm t) (pkm_flat (h.get 0 rfl)) ok nm hn hl ht p0 p1 p2 p3 p4 p5 p6 p7 hregs).mono ?_
  rintro e w' ⟨he, t', e1, hS⟩
  have e2 : t'.regs = t.regs := by
    have := congrArg RpA.regs e1
    rw [work_regs] at this
    exact this
  rw [← rpM_regs e2] at hS
  exact ⟨he, t', e1, h.call 0 rfl (pkm_fold hS)⟩
theorem rp_sel {Bm Be : Nat} {t : RpT} {X : World} {q0 q1 q2 q3 q4 q5 q6 q7 : Val} (hP : ((rpKm Bm Be).item t).P X) (hq : t.regs = [q0, q1, q2, q3, q4, q5, q6, q7]) : X.cell? ⟨Bm, 0, none⟩ = some (.bool q0.1) ∧ X.cell? ⟨Bm, 1, none⟩ = some (.int .i64 q0.2) ∧ X.cell? ⟨Bm, 2, none⟩ = some (.bool q1.1) ∧ X.cell? ⟨Bm, 3, none⟩ = some (.int .i64 q1.2) ∧ X.cell? ⟨Bm, 4, none⟩ = some (.bool q2.1) ∧ X.cell? ⟨Bm, 5, none⟩ = some (.int .i64 q2.2) ∧ X.cell? ⟨Bm, 6, none⟩ = some (.bool q3.1) ∧ X.cell? ⟨Bm, 7, none⟩ = some (.int .i64 q3.2) ∧ X.cell? ⟨Bm, 8, none⟩ = some (.bool q4.1) ∧ X.cell? ⟨Bm, 9, none⟩ = some (.int .i64 q4.2) ∧ X.cell? ⟨Bm, 10, none⟩ = some (.bool q5.1) ∧ X.cell? ⟨Bm, 11, none⟩ = some (.int .i64 q5.2) ∧ X.cell? ⟨Bm, 12, none⟩ = some (.bool q6.1) ∧ X.cell? ⟨Bm, 13, none⟩ = some (.int .i64 q6.2) ∧ X.cell? ⟨Bm, 14, none⟩ = some (.bool q7.1) ∧ X.cell? ⟨Bm, 15, none⟩ = some (.int .i64 q7.2) ∧ Bm < X.heap.size := by
  have hS := pkm_flat hP
  obtain ⟨c1, _, c3, _⟩ := hS.rules 0 (g := Bm) (t := 113) (cs := mcCells t.regs (.iface 186 (.pointer (some ⟨Be, 0, none⟩)))) rfl
  rw [hq] at c1
  exact ⟨(c1 0).trans rfl, (c1 1).trans rfl, (c1 2).trans rfl, (c1 3).trans rfl, (c1 4).trans rfl, (c1 5).trans rfl, (c1 6).trans rfl, (c1 7).trans rfl, (c1 8).trans rfl, (c1 9).trans rfl, (c1 10).trans rfl, (c1 11).trans rfl, (c1 12).trans rfl, (c1 13).trans rfl, (c1 14).trans rfl, (c1 15).trans rfl, c3⟩
/-! How it begins. -/
theorem rp_mk {F : Nat → Prop} {W w : World} {Be nO n c2 c' : Nat} {As A : Option Addr} {ps : List Po} {cs : Array Value} {l : List Int} {G1 G2 : Item} (hps : ps.length = nO)
    (h : Sep F W w (rowI 3 1 A n c' (ints l) :: blkI Be 190 cs :: allI (rowI 170 1 As nO c2 (ps.map poPtr) :: ps.map poI) :: [G1, G2])) : Sep F W w (allI [G1, G2] :: blkI Be 190 cs :: rowI 3 1 A n c' (ints l) :: ojL ⟨As, c2, ps.map some⟩) := by
  have e : ojL ⟨As, c2, ps.map some⟩ = rowI 170 1 As nO c2 (ps.map poPtr) :: ps.map poI := by
    unfold ojL
    dsimp only
    rw [List.length_map, hps, List.map_map, List.map_map]
    rfl
  rw [e]
  have h1 : Sep F W w (allI (rowI 170 1 As nO c2 (ps.map poPtr) :: ps.map poI) :: [G1, G2, blkI Be 190 cs, rowI 3 1 A n c' (ints l)]) := h.perm (by
    refine List.Perm.trans (List.perm_append_comm (l₁ := [_, _]) (l₂ := [_, _, _])) ?_
    exact List.Perm.cons _ (List.Perm.cons _ (List.Perm.cons _ (List.Perm.swap _ _ _))))
  exact Sep.join (l := [G1, G2]) ((Sep.split h1).perm List.perm_append_comm)
def rpS (regs : List Val) (As : Option Addr) (c : Nat) (ps : List Po) (A : Option Addr) (c' : Nat) (b : Nat) : RpT := rpN regs ⟨As, c, ps.map some⟩ A c' (rangeI ps.length) b 0
theorem rpS_a (regs : List Val) (As : Option Addr) (c : Nat) (ps : List Po) (A : Option Addr) (c' b : Nat) : (rpS regs As c ps A c' b).a = rp0 ⟨regs, ps.map fun p => p.o.fields⟩ := by
  unfold RpT.a rpS rpN rp0
  dsimp only
  rw [show (⟨As, c, ps.map some⟩ : Oj).abs = (ps.map fun p => p.o.fields).map some from co1_abs As c ps A c', List.length_map]
  rfl
end Go.Proofs.Ytjphckfbbiehdaa

namespace Go.Proofs.Ytjphckfbbiehdaa
open Go.RowKit
theorem padR_ok {n : Nat} {l : List Val} (h : ValsOk n l) (k : Nat) : ValsOk n (padR l k) := fun v hv h1 => by
  unfold padR at hv
  rcases List.mem_append.1 hv with h2 | h2
  · exact h v (List.mem_of_mem_take h2) h1
  · obtain ⟨_, rfl⟩ := List.mem_replicate.1 h2
    cases h1
end Go.Proofs.Ytjphckfbbiehdaa
