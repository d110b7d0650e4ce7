/- graph.Reach, graph.Dist. The law GraphTells: the walk. Arguments that are slices, opened to lists of cells. -/
import Derived.Test.YtaajkldhnjoicaaGGraphTells7
import Derived.Test.YtaajkldhnjoicaaGGraphTells8
import Derived.Test.YtaajkldhnjoicaaGGraphTells0
import Derived.Deep.Slices
import Derived.Deep.Fields
import Derived.ChangeSame
set_option linter.unusedSimpArgs false
set_option linter.unusedVariables false
namespace Go.Proofs.Ytaajkldhnjoicaa
open Go.RowKit

set_option maxRecDepth 100000 in
set_option maxHeartbeats 4000000 in
theorem reachTop_bad (w : World) (AO AR : Option Addr) (nO cO nR cR : Nat) (obs : List Ob) (roots : List Val) (hO : ObsRd w (fun _ => True) AO nO obs) (hR : Rd w (fun _ => True) 2 AR nR (vals roots)) (hz : gcheck nO nR obs roots ≠ 0) :
    Calls Try.prog 58 #[.agg #[.slice AO nO cO, .slice AR nR cR]] w fun e w' => e = .returned (.tuple #[.slice none 0 0, .int .i64 (gcheck nO nR obs roots)]) ∧ Below w.heap.size w w' := by
  have hS0 := ((Sep.nil No w).blkAt 25 #[.slice AO nO cO, .slice AR nR cR] rfl)
  obtain ⟨a1, a2, a3, a4⟩ := hS0.rules 0 (g := w.heap.size) (t := 25) rfl
  have a5 := a1 0
  have a6 := a1 1
  have HB := hide hS0.below_
  have C1 := hide (graphCheck_any _ AO AR nO cO nR cR obs roots (hO.below hS0.below_) (hR.below hS0.below_))
  obtain ⟨x, hx⟩ : ∃ x, gcheck nO nR obs roots = x := ⟨_, rfl⟩
  rw [hx] at C1 hz ⊢
  have y1 : (x != 0) = true := by rw [bne_iff_ne]; exact hz
  clear hS0 hx hz a1 a4
  go_enter Try.func58, Try.ntmps58
  go_wp2_with fail
  refine C1.out.mono ?_
  rintro e w1 ⟨rfl, hb1⟩
  have HB1 := hide (HB.out.trans (hb1.mono HB.out.size))
  clear hb1
  go_wp2_with fail
  go_ret2
  exact ⟨rfl, HB1.out⟩
set_option maxRecDepth 100000 in
set_option maxHeartbeats 4000000 in
theorem distTop_bad (w : World) (AO AR : Option Addr) (nO cO nR cR : Nat) (obs : List Ob) (roots : List Val) (hO : ObsRd w (fun _ => True) AO nO obs) (hR : Rd w (fun _ => True) 2 AR nR (vals roots)) (hz : gcheck nO nR obs roots ≠ 0) :
    Calls Try.prog 59 #[.agg #[.slice AO nO cO, .slice AR nR cR]] w fun e w' => e = .returned (.tuple #[.slice none 0 0, .int .i64 (gcheck nO nR obs roots)]) ∧ Below w.heap.size w w' := by
  have hS0 := ((Sep.nil No w).blkAt 25 #[.slice AO nO cO, .slice AR nR cR] rfl)
  obtain ⟨a1, a2, a3, a4⟩ := hS0.rules 0 (g := w.heap.size) (t := 25) rfl
  have a5 := a1 0
  have a6 := a1 1
  have HB := hide hS0.below_
  have C1 := hide (graphCheck_any _ AO AR nO cO nR cR obs roots (hO.below hS0.below_) (hR.below hS0.below_))
  obtain ⟨x, hx⟩ : ∃ x, gcheck nO nR obs roots = x := ⟨_, rfl⟩
  rw [hx] at C1 hz ⊢
  have y1 : (x != 0) = true := by rw [bne_iff_ne]; exact hz
  clear hS0 hx hz a1 a4
  go_enter Try.func59, Try.ntmps59
  go_wp2_with fail
  refine C1.out.mono ?_
  rintro e w1 ⟨rfl, hb1⟩
  have HB1 := hide (HB.out.trans (hb1.mono HB.out.size))
  clear hb1
  go_wp2_with fail
  go_ret2
  exact ⟨rfl, HB1.out⟩
set_option maxRecDepth 100000 in
set_option maxHeartbeats 4000000 in
theorem reachTop_ok (w : World) (AO AR : Option Addr) (nO cO nR cR : Nat) (obs : List Ob) (roots : List Val) (hO : ObsRd w (fun _ => True) AO nO obs) (hR : Rd w (fun _ => True) 2 AR nR (vals roots)) (hz : gcheck nO nR obs roots = 0) :
    Calls Try.prog 58 #[.agg #[.slice AO nO cO, .slice AR nR cR]] w fun e w' => ∃ A n c, e = .returned (.tuple #[.slice A n c, .int .i64 0]) ∧ Sep No w w' [rowI 3 1 A n c (ints (reachR (obs.map Ob.fields) roots))] := by
  have hG := gok_of hO hz
  have hS0 := ((Sep.nil No w).blkAt 25 #[.slice AO nO cO, .slice AR nR cR] rfl)
  obtain ⟨a1, a2, a3, a4⟩ := hS0.rules 0 (g := w.heap.size) (t := 25) rfl
  have a5 := a1 0
  have a6 := a1 1
  have HS0 := hide hS0
  have C1 := hide (graphCheck_any _ AO AR nO cO nR cR obs roots (hO.below hS0.below_) (hR.below hS0.below_))
  rw [hz] at C1
  have C2 := hide (fun w' (hb : Below w.heap.size w w') => found_ok w' AO AR nO cO nR cR obs roots (hO.below hb) (hR.below hb) hG)
  have hOL := (order_ok hG.vg hG.vr).len
  have HOL := hide (show (order (obs.map Ob.fields) roots).length ≤ 24 by have := hG.nO_; have := hG.len; omega)
  have HSO := hide (sort_order hG.vg hG.vr)
  obtain ⟨L, hL⟩ : ∃ L, order (obs.map Ob.fields) roots = L := ⟨_, rfl⟩
  rw [hL] at HOL HSO
  simp only [hL] at C2
  obtain ⟨R, hRr⟩ : ∃ R, reachR (obs.map Ob.fields) roots = R := ⟨_, rfl⟩
  rw [hRr] at HSO ⊢
  clear hS0 hz a1 a4 hG hOL hL hRr
  go_enter Try.func58, Try.ntmps58
  go_wp2_with fail
  refine C1.out.mono ?_
  rintro e w1 ⟨rfl, hb1⟩
  have hS1 := HS0.out.below hb1
  obtain ⟨b1, b2, b3, b4⟩ := hS1.rules 0 (g := w.heap.size) (t := 25) rfl
  have b5 := b1 0
  have b6 := b1 1
  have HS1 := hide hS1
  clear hb1 hS1 HS0 C1 a2 a3 a5 a6 b1 b4
  go_wp2_with fail
  refine (C2.out _ HS1.out.below_).mono ?_
  rintro e w2 ⟨A, n, c, A2, c2, rfl, hP⟩
  have hS2 := Sep.call0 HS1.out hP
  have hnl : n = L.length := by have := (hP.rd_ 0 rfl).1; simpa using this.symm
  have C3 := hide (sort_any w2 A n c L (hS2.get 0 rfl) (by have := HOL.out; omega))
  clear hnl
  have HS2 := hide hS2
  clear hP hS2 HS1 C2 b2 b3 b5 b6
  go_wp2_with fail
  refine C3.out.mono ?_
  rintro e w3 ⟨⟨v, rfl⟩, hP3⟩
  rw [HSO.out] at hP3
  have HS3 := hide (HS2.out.call 0 rfl hP3)
  clear hP3 C3 HS2
  go_wp2_with fail
  go_ret2
  exact ⟨A, n, c, rfl, HS3.out.sub (by simp)⟩
set_option maxRecDepth 100000 in
set_option maxHeartbeats 4000000 in
theorem distTop_ok (w : World) (AO AR : Option Addr) (nO cO nR cR : Nat) (obs : List Ob) (roots : List Val) (hO : ObsRd w (fun _ => True) AO nO obs) (hR : Rd w (fun _ => True) 2 AR nR (vals roots)) (hz : gcheck nO nR obs roots = 0) :
    Calls Try.prog 59 #[.agg #[.slice AO nO cO, .slice AR nR cR]] w fun e w' => ∃ A c, e = .returned (.tuple #[.slice A nO c, .int .i64 0]) ∧ Sep No w w' [rowI 3 1 A nO c (ints (distR (obs.map Ob.fields) roots))] := by
  have hG := gok_of hO hz
  have hS0 := ((Sep.nil No w).blkAt 25 #[.slice AO nO cO, .slice AR nR cR] rfl)
  obtain ⟨a1, a2, a3, a4⟩ := hS0.rules 0 (g := w.heap.size) (t := 25) rfl
  have a5 := a1 0
  have a6 := a1 1
  have HS0 := hide hS0
  have C1 := hide (graphCheck_any _ AO AR nO cO nR cR obs roots (hO.below hS0.below_) (hR.below hS0.below_))
  rw [hz] at C1
  have C2 := hide (fun w' (hb : Below w.heap.size w w') => found_ok w' AO AR nO cO nR cR obs roots (hO.below hb) (hR.below hb) hG)
  clear hS0 hz a1 a4 hG
  go_enter Try.func59, Try.ntmps59
  go_wp2_with fail
  refine C1.out.mono ?_
  rintro e w1 ⟨rfl, hb1⟩
  have hS1 := HS0.out.below hb1
  obtain ⟨b1, b2, b3, b4⟩ := hS1.rules 0 (g := w.heap.size) (t := 25) rfl
  have b5 := b1 0
  have b6 := b1 1
  have HS1 := hide hS1
  clear hb1 hS1 HS0 C1 a2 a3 a5 a6 b1 b4
  go_wp2_with fail
  refine (C2.out _ HS1.out.below_).mono ?_
  rintro e w2 ⟨A, n, c, A2, c2, rfl, hP⟩
  have HS2 := hide (Sep.call0 HS1.out hP)
  clear hP HS1 C2 b2 b3 b5 b6
  go_wp2_with fail
  go_ret2
  exact ⟨A2, c2, rfl, HS2.out.sub (by simp)⟩
end Go.Proofs.Ytaajkldhnjoicaa

namespace Go.Proofs.Ytaajkldhnjoicaa
open Go.RowKit

set_option maxRecDepth 100000 in
set_option maxHeartbeats 4000000 in
theorem graphTells_bad (w : World) (AO AR : Option Addr) (nO cO nR cR : Nat) (obs : List Ob) (roots : List Val) (hO : ObsRd w (fun _ => True) AO nO obs) (hR : Rd w (fun _ => True) 2 AR nR (vals roots)) (hz : gcheck nO nR obs roots ≠ 0) :
    Calls Try.prog 14 #[.agg #[.slice AO nO cO, .slice AR nR cR]] w fun e w' => e = .returned (.bool true) ∧ Below w.heap.size w w' := by
  have hB0 : Below w.heap.size w (w.alloc (.cells #[.slice AO nO cO, .slice AR nR cR] 25)) := (Below.refl _ w).alloc (Nat.le_refl _) _
  have BA := hide (Blk.new w 25 #[.slice AO nO cO, .slice AR nR cR])
  have HB0 := hide hB0
  have C1 := hide (fun w' (hb : Below w.heap.size w w') => graphCheck_any w' AO AR nO cO nR cR obs roots (hO.below hb) (hR.below hb))
  have C2 := hide (fun w' (hb : Below w.heap.size w w') => reachTop_bad w' AO AR nO cO nR cR obs roots (hO.below hb) (hR.below hb) hz)
  have C3 := hide (fun w' (hb : Below w.heap.size w w') => distTop_bad w' AO AR nO cO nR cR obs roots (hO.below hb) (hR.below hb) hz)
  have C4 := hide (fun w' (hb : Below w.heap.size w w') => refCheck_any w' AO AR nO cO nR cR obs roots (hO.below hb) (hR.below hb))
  obtain ⟨x, hx⟩ : ∃ x, gcheck nO nR obs roots = x := ⟨_, rfl⟩
  simp only [hx] at C1 C2 C3 C4
  rw [hx] at hz
  have y1 : (x != 0) = true := by rw [bne_iff_ne]; exact hz
  obtain ⟨a1, a2, a3⟩ := BA.out.rules
  clear hz hx hB0
  go_enter Try.func14, Try.ntmps14
  go_wp2_with fail
  refine (C1.out _ HB0.out).mono ?_
  rintro e w1 ⟨rfl, hb1⟩
  have HB1 := hide (HB0.out.trans (hb1.mono HB0.out.size))
  have BA1 := hide (BA.out.below_ hb1)
  clear hb1 HB0 BA C1 a1 a2 a3
  obtain ⟨a1, a2, a3⟩ := BA1.out.rules
  go_wp2_with fail
  refine (C2.out _ HB1.out).mono ?_
  rintro e w2 ⟨rfl, hb2⟩
  have HB2 := hide (HB1.out.trans (hb2.mono HB1.out.size))
  have BA2 := hide (BA1.out.below_ hb2)
  clear hb2 HB1 BA1 C2 a1 a2 a3
  obtain ⟨a1, a2, a3⟩ := BA2.out.rules
  go_wp2_with fail
  refine (C3.out _ HB2.out).mono ?_
  rintro e w3 ⟨rfl, hb3⟩
  have HB3 := hide (HB2.out.trans (hb3.mono HB2.out.size))
  have BA3 := hide (BA2.out.below_ hb3)
  clear hb3 HB2 BA2 C3 a1 a2 a3
  obtain ⟨a1, a2, a3⟩ := BA3.out.rules
  go_wp2_with fail
  refine (C4.out _ HB3.out).mono ?_
  rintro e w4 ⟨rfl, hb4⟩
  have HB4 := hide (HB3.out.trans (hb4.mono HB3.out.size))
  clear hb4 HB3 BA3 C4 a1 a2 a3
  go_wp2_with fail
  go_ret
  exact ⟨rfl, HB4.out⟩

set_option maxRecDepth 100000 in
set_option maxHeartbeats 8000000 in
theorem graphTells_ok (w : World) (AO AR : Option Addr) (nO cO nR cR : Nat) (obs : List Ob) (roots : List Val) (hO : ObsRd w (fun _ => True) AO nO obs) (hR : Rd w (fun _ => True) 2 AR nR (vals roots)) (hz : gcheck nO nR obs roots = 0) :
    Calls Try.prog 14 #[.agg #[.slice AO nO cO, .slice AR nR cR]] w fun e w' => e = .returned (.bool true) ∧ Below w.heap.size w w' := by
  have hG := gok_of hO hz
  have hrl := roots_len hR
  have hGR := graphRd_of hO (cO := cO) hR (cR := cR)
  have hB0 : Below w.heap.size w (w.alloc (.cells #[.slice AO nO cO, .slice AR nR cR] 25)) := (Below.refl _ w).alloc (Nat.le_refl _) _
  have BA := hide (Blk.new w 25 #[.slice AO nO cO, .slice AR nR cR])
  have HB0 := hide hB0
  have C1 := hide (fun w' (hb : Below w.heap.size w w') => graphCheck_any w' AO AR nO cO nR cR obs roots (hO.below hb) (hR.below hb))
  have C2 := hide (fun w' (hb : Below w.heap.size w w') => reachTop_ok w' AO AR nO cO nR cR obs roots (hO.below hb) (hR.below hb) hz)
  have C3 := hide (fun w' (hb : Below w.heap.size w w') => distTop_ok w' AO AR nO cO nR cR obs roots (hO.below hb) (hR.below hb) hz)
  have C4 := hide (fun w' (hb : Below w.heap.size w w') => refCheck_any w' AO AR nO cO nR cR obs roots (hO.below hb) (hR.below hb))
  have C5 := hide (fun w' (hb : Below w.heap.size w w') => reach_any w' _ _ _ (hGR.below hb) (by have := hG.nO_; have := hG.len; omega) (by have := hG.nR_; omega) (fun fs hfs => by have := hG.fs fs hfs; omega))
  have C6 := hide (fun w' (hb : Below w.heap.size w w') => dist_any w' _ _ _ (hGR.below hb) (by have := hG.nO_; have := hG.len; omega) (by have := hG.nR_; omega) (fun fs hfs => by have := hG.fs fs hfs; omega))
  simp only [hz] at C1 C4
  have hRl : (reachR (obs.map Ob.fields) roots).length ≤ 24 := by have := (reach_ok (gs := obs.map Ob.fields) (vs := roots)).len; have := hG.nO_; have := hG.len; omega
  have hDl : (distR (obs.map Ob.fields) roots).length = nO := by rw [distR_len]; exact hG.len
  have hgl := hG.len
  rw [hgl] at C6
  obtain ⟨R, hRr⟩ : ∃ R, reachR (obs.map Ob.fields) roots = R := ⟨_, rfl⟩
  simp only [hRr] at C2 C5 hRl
  obtain ⟨L, hL⟩ : ∃ L, distR (obs.map Ob.fields) roots = L := ⟨_, rfl⟩
  simp only [hL] at C3 C6 hDl
  have HRL := hide hRl
  have HNO := hide hG.nO_
  obtain ⟨a1, a2, a3⟩ := BA.out.rules
  clear hz hB0 hG hrl hGR hRr hL hRl hDl hgl
  go_enter Try.func14, Try.ntmps14
  go_wp2_with fail
  refine (C1.out _ HB0.out).mono ?_
  rintro e w1 ⟨rfl, hb1⟩
  have HB1 := hide (HB0.out.trans (hb1.mono HB0.out.size))
  have BA1 := hide (BA.out.below_ hb1)
  clear hb1 HB0 BA C1 a1 a2 a3
  obtain ⟨a1, a2, a3⟩ := BA1.out.rules
  go_wp2_with fail
  refine (C2.out _ HB1.out).mono ?_
  rintro e w2 ⟨A2, n2, c2, rfl, hP2⟩
  have hb2 := hP2.below_
  obtain rfl : n2 = R.length := by have := (hP2.rd_ 0 rfl).1; simpa using this.symm
  have HB2 := hide (HB1.out.trans (hb2.mono HB1.out.size))
  have BA2 := hide (BA1.out.below_ hb2)
  have HL2 := hide (hP2.rd_ 0 rfl)
  clear hb2 hP2 HB1 BA1 C2 a1 a2 a3
  obtain ⟨a1, a2, a3⟩ := BA2.out.rules
  go_wp2_with fail
  refine (C3.out _ HB2.out).mono ?_
  rintro e w3 ⟨A3, c3, rfl, hP3⟩
  have hb3 := hP3.below_
  have HB3 := hide (HB2.out.trans (hb3.mono HB2.out.size))
  have BA3 := hide (BA2.out.below_ hb3)
  have HL3 := hide (HL2.out.below hb3)
  have HD3 := hide (hP3.rd_ 0 rfl)
  clear hb3 hP3 HB2 BA2 HL2 C3 a1 a2 a3
  obtain ⟨a1, a2, a3⟩ := BA3.out.rules
  go_wp2_with fail
  refine (C4.out _ HB3.out).mono ?_
  rintro e w4 ⟨rfl, hb4⟩
  have HB4 := hide (HB3.out.trans (hb4.mono HB3.out.size))
  have BA4 := hide (BA3.out.below_ hb4)
  have HL4 := hide (HL3.out.below hb4)
  have HD4 := hide (HD3.out.below hb4)
  clear hb4 HB3 BA3 HL3 HD3 C4 a1 a2 a3
  obtain ⟨a1, a2, a3⟩ := BA4.out.rules
  go_wp2_with fail
  refine (C5.out _ HB4.out).mono ?_
  rintro e w5 ⟨A5, n5, c5, rfl, hP5⟩
  have hb5 := hP5.below_
  obtain rfl : n5 = R.length := by have := (hP5.rd_ 0 rfl).1; simpa using this.symm
  have C7 := hide (ints_same w5 _ _ A2 A5 R.length c2 c5 R (by have := HRL.out; omega) (HL4.out.below hb5) (hP5.rd_ 0 rfl))
  have HB5 := hide (HB4.out.trans (hb5.mono HB4.out.size))
  have BA5 := hide (BA4.out.below_ hb5)
  have HD5 := hide (HD4.out.below hb5)
  clear hb5 hP5 HB4 BA4 HL4 HD4 C5 a1 a2 a3
  go_wp2_with fail
  refine C7.out.mono ?_
  rintro e w6 ⟨rfl, hb6⟩
  have HB6 := hide (HB5.out.trans (hb6.mono HB5.out.size))
  have BA6 := hide (BA5.out.below_ hb6)
  have HD6 := hide (HD5.out.below hb6)
  clear hb6 HB5 BA5 HD5 C7
  obtain ⟨a1, a2, a3⟩ := BA6.out.rules
  go_wp2_with fail
  refine (C6.out _ HB6.out).mono ?_
  rintro e w7 ⟨A7, c7, rfl, hP7⟩
  have hb7 := hP7.below_
  have C8 := hide (ints_same w7 _ _ A3 A7 nO c3 c7 L (by have := HNO.out; omega) (HD6.out.below hb7) (hP7.rd_ 0 rfl))
  have HB7 := hide (HB6.out.trans (hb7.mono HB6.out.size))
  clear hb7 hP7 HB6 BA6 HD6 C6 a1 a2 a3
  go_wp2_with fail
  refine C8.out.mono ?_
  rintro e w8 ⟨rfl, hb8⟩
  have HB8 := hide (HB7.out.trans (hb8.mono HB7.out.size))
  clear hb8 HB7 C8
  go_wp2_with fail
  go_ret
  exact ⟨rfl, HB8.out⟩
theorem graphTells_walk (w : World) (AO AR : Option Addr) (nO cO nR cR : Nat) (obs : List Ob) (roots : List Val) (hO : ObsRd w (fun _ => True) AO nO obs) (hR : Rd w (fun _ => True) 2 AR nR (vals roots)) :
    Calls Try.prog 14 #[.agg #[.slice AO nO cO, .slice AR nR cR]] w fun e w' => e = .returned (.bool true) ∧ Below w.heap.size w w' := by
  by_cases hz : gcheck nO nR obs roots = 0
  · exact graphTells_ok w AO AR nO cO nR cR obs roots hO hR hz
  · exact graphTells_bad w AO AR nO cO nR cR obs roots hO hR hz
end Go.Proofs.Ytaajkldhnjoicaa

namespace Go.Proofs.Ytaajkldhnjoicaa
open Go.ChangeShapes Go.WideShapes Go.Deep Go.RowKit

theorem block_lt_ {w : World} {a : Addr} {v : Value} (h : w.cell? a = some v) : a.block < w.heap.size := by
  unfold World.cell? at h
  split at h
  · rename_i hb; exact (Array.getElem?_eq_some_iff.1 hb).1
  · cases h
theorem triples_length (l : List (Int × Int × Int)) : (l.flatMap fun d => [Value.int .i64 d.1, .int .i64 d.2.1, .int .i64 d.2.2]).length = l.length * 3 := by
  induction l with
  | nil => rfl
  | cons a l ih => rw [List.flatMap_cons, List.length_append, ih]; simp; omega
theorem triples_at (l : List (Int × Int × Int)) (q r : Nat) (hr : r < 3) : (l.flatMap fun d => [Value.int .i64 d.1, .int .i64 d.2.1, .int .i64 d.2.2])[q * 3 + r]? = (l[q]?).bind fun d => [Value.int .i64 d.1, .int .i64 d.2.1, .int .i64 d.2.2][r]? := by
  induction l generalizing q with
  | nil => rfl
  | cons a l ih =>
    rw [List.flatMap_cons]
    cases q with
    | zero => rw [List.getElem?_append_left (by simp; omega)]; simp
    | succ q => rw [List.getElem?_append_right (by simp; omega), show (q + 1) * 3 + r - [Value.int .i64 a.1, .int .i64 a.2.1, .int .i64 a.2.2].length = q * 3 + r by simp; omega, ih]; rfl

/-- A slice of structs of three ints. -/
theorem open_deeds {H : Type} {enc : TypeId × Value → H} {P : Program} {w : World} {base : Nat} {spare : Nat → Bool} {held : Bool} {t e : TypeId} {v : Value} {d : DataW H} {p : List MemPlace} {fs : Array Field}
    (ht : P.underlying t = some (.slice e)) (he : P.underlying e = some (.struct fs)) (hone : oneCellFields P fs = true) (hC : P.cellsOf e = 3) (hf : fs.size = 3)
    (hi : ∀ (j : Nat) (f : Field), fs[j]? = some f → P.underlying f.type = some (.int .i64)) {r : Reach} {bb : Nat} (hv : Value.okWide P w r bb t v) (h : DataW.Trod enc P w base spare held t v d p) :
    ∃ (A : Option Addr) (n c : Nat) (l : List (Int × Int × Int)), v = .slice A n c ∧ n ≤ 9223372036854775807 ∧ n ≤ c ∧ c ≤ 9223372036854775807 ∧ l.length = n ∧
      Rd w (fun _ => True) 3 A n (l.flatMap fun d => [.int .i64 d.1, .int .i64 d.2.1, .int .i64 d.2.2]) := by
  obtain ⟨A, n, c, rfl⟩ := okWide_slice ht hv
  obtain ⟨fuel, h⟩ := h
  rcases open_slice ht h with ⟨h0, _⟩ | ⟨a, len, cap, m, n0, D, Pl, hcs, _, hl, hm, hmm, _, hx⟩
  · simp [Value.cells] at h0
    obtain ⟨rfl, rfl, rfl⟩ := h0
    exact ⟨none, 0, 0, [], rfl, by omega, by omega, by omega, rfl, Rd.nil⟩
  · simp [Value.cells] at hcs
    obtain ⟨rfl, rfl, rfl⟩ := hcs
    have hle : n ≤ m := by rw [hmm]; split <;> omega
    have hmx : c ≤ 9223372036854775807 := by simpa [maxLen] using hm
    have key : ∀ i, i < n → ∃ x : Int × Int × Int, w.cell? (a.add (i * 3)) = some (.int .i64 x.1) ∧ w.cell? (a.add (i * 3 + 1)) = some (.int .i64 x.2.1) ∧ w.cell? (a.add (i * 3 + 2)) = some (.int .i64 x.2.2) := by
      intro i hi'
      obtain ⟨cs', h1, h2⟩ := hx i (by omega)
      rw [hC] at h1
      obtain ⟨_, hcl, hat⟩ := World.cells?_some h1
      obtain ⟨ys, n', _, _, _, hyl, hj⟩ := DataW.trod_struct he h2
      have one : ∀ j, j < 3 → ∃ k : Int, w.cell? (a.add (i * 3 + j)) = some (.int .i64 k) := by
        intro j hj3
        have hfj : fs[j]? = some (fs[j]'(by omega)) := Array.getElem?_eq_getElem (by omega)
        obtain ⟨ho, hk⟩ := hone_of hone j _ hfj
        have h3 := hj j _ hfj
        rw [ho, hk, List.getElem?_eq_getElem (by omega)] at h3
        obtain ⟨k, e0, _, _⟩ := DataW.trod_int (hi j _ hfj) h3
        refine ⟨k, ?_⟩
        rw [← add_of_add, hat j (by omega)]
        have e1 := congrArg (fun l => l[0]?) e0
        simpa [List.getElem?_take, List.getElem?_drop] using e1
      obtain ⟨x, hx0⟩ := one 0 (by omega)
      obtain ⟨y, hx1⟩ := one 1 (by omega)
      obtain ⟨z, hx2⟩ := one 2 (by omega)
      exact ⟨(x, y, z), hx0, hx1, hx2⟩
    obtain ⟨f, hf'⟩ := choose_lt key
    refine ⟨some a, n, c, (List.range n).map f, rfl, by omega, hl, hmx, by simp, ?_, ?_⟩
    · rw [triples_length]; simp
    · intro hn
      refine ⟨a, rfl, trivial, ?_, ?_⟩
      · have := block_lt_ (hf' 0 hn).1
        simpa [block_of_add] using this
      · intro j u hu
        obtain ⟨q, r, hr, rfl⟩ : ∃ q r, r < 3 ∧ j = q * 3 + r := ⟨j / 3, j % 3, Nat.mod_lt _ (by omega), by omega⟩
        rw [triples_at _ _ _ hr] at hu
        simp only [List.getElem?_map] at hu
        rcases Nat.lt_or_ge q n with hq | hq
        case inr => rw [List.getElem?_eq_none (by simp; omega)] at hu; cases hu
        rw [List.getElem?_range hq] at hu
        simp only [Option.map_some, Option.bind_some] at hu
        obtain ⟨g0, g1, g2⟩ := hf' q hq
        rcases (show r = 0 ∨ r = 1 ∨ r = 2 by omega) with rfl | rfl | rfl
        · simp at hu; subst hu; simpa [add_of_add] using g0
        · simp at hu; subst hu; simpa [add_of_add] using g1
        · simp at hu; subst hu; simpa [add_of_add] using g2
end Go.Proofs.Ytaajkldhnjoicaa
