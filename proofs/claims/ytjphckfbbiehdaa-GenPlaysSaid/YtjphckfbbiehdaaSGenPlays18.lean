/- The reference's memory: what is wrong with what is to be done. -/
import Derived.BigQuiet
import Derived.Test.YtjphckfbbiehdaaSGenPlays17
set_option linter.unusedSimpArgs false
set_option linter.unusedVariables false
namespace Go.Proofs.Ytjphckfbbiehdaa
open Go.RowKit
set_option maxHeartbeats 400000 in
theorem reg_any (w : World) (x : Int) (b : Bool) (hb : badR x = b) : Calls Try.prog 139 #[.int .i64 x] w fun e w' => e = .returned (.bool (!b)) ∧ w' = w := by
  subst hb
  unfold badR
  by_cases h1 : 0 ≤ x
  · have t0 : decide (x < 0) = false := by simp; omega
    have t1 : decide (0 ≤ x) = true := by simp [h1]
    by_cases h2 : x < 8
    · have t2 : decide (x < 8) = true := by simp [h2]
      have t3 : decide (8 ≤ x) = false := by simp; omega
      have HT := hide (And.intro t0 t3)
      clear h1 h2 t0 t3
      go_enter Try.func139, Try.ntmps139
      go_wp2_with fail
      go_ret
      exact ⟨ret_bool (by rw [HT.out.1, HT.out.2]; rfl), rfl⟩
    · have t2 : decide (x < 8) = false := by simp; omega
      have t3 : decide (8 ≤ x) = true := by simp; omega
      have HT := hide (And.intro t0 t3)
      clear h1 h2 t0 t3
      go_enter Try.func139, Try.ntmps139
      go_wp2_with fail
      go_ret
      exact ⟨ret_bool (by rw [HT.out.1, HT.out.2]; rfl), rfl⟩
  · have t0 : decide (x < 0) = true := by simp; omega
    have t1 : decide (0 ≤ x) = false := by simp; omega
    have HT := hide t0
    clear h1 t0
    go_enter Try.func139, Try.ntmps139
    go_wp2_with fail
    go_ret
    exact ⟨ret_bool (by rw [HT.out]; rfl), rfl⟩
section
variable (w : World) (Bm : Nat) (to fr at_ n : Int)
set_option maxRecDepth 100000 in
set_option maxHeartbeats 4000000 in
theorem rw_lo (k : Int) (h : k < 1) : Calls Try.prog 78 #[.pointer (some ⟨Bm, 0, none⟩), .agg #[.int .i64 k, .int .i64 to, .int .i64 fr, .int .i64 at_, .int .i64 n]] w fun e w' => e = .returned (.int .i64 5) ∧ Below w.heap.size w w' := by
  have hb0 : Below w.heap.size w (w.alloc (.cells #[.int .i64 k, .int .i64 to, .int .i64 fr, .int .i64 at_, .int .i64 n] 39)) := (Below.refl _ w).alloc (Nat.le_refl _) _
  obtain ⟨c1, c2, c3⟩ := (Blk.new w 39 #[.int .i64 k, .int .i64 to, .int .i64 fr, .int .i64 at_, .int .i64 n]).rules
  have c4 := (c1 0).trans (show _ = some (.int .i64 k) from rfl)
  have c5 := (c1 1).trans (show _ = some (.int .i64 to) from rfl)
  have c6 := (c1 2).trans (show _ = some (.int .i64 fr) from rfl)
  have c7 := (c1 4).trans (show _ = some (.int .i64 n) from rfl)
  have k1 : decide (k < 1) = true := by simp; omega
  clear h
  have HB1 := hide hb0
  clear hb0 c1
  go_enter Try.func78, Try.ntmps78
  go_wp2_with fail
  go_ret
  exact ⟨rfl, HB1.out⟩
set_option maxRecDepth 100000 in
set_option maxHeartbeats 4000000 in
theorem rw_hi (k : Int) (h : 7 < k) : Calls Try.prog 78 #[.pointer (some ⟨Bm, 0, none⟩), .agg #[.int .i64 k, .int .i64 to, .int .i64 fr, .int .i64 at_, .int .i64 n]] w fun e w' => e = .returned (.int .i64 5) ∧ Below w.heap.size w w' := by
  have hb0 : Below w.heap.size w (w.alloc (.cells #[.int .i64 k, .int .i64 to, .int .i64 fr, .int .i64 at_, .int .i64 n] 39)) := (Below.refl _ w).alloc (Nat.le_refl _) _
  obtain ⟨c1, c2, c3⟩ := (Blk.new w 39 #[.int .i64 k, .int .i64 to, .int .i64 fr, .int .i64 at_, .int .i64 n]).rules
  have c4 := (c1 0).trans (show _ = some (.int .i64 k) from rfl)
  have c5 := (c1 1).trans (show _ = some (.int .i64 to) from rfl)
  have c6 := (c1 2).trans (show _ = some (.int .i64 fr) from rfl)
  have c7 := (c1 4).trans (show _ = some (.int .i64 n) from rfl)
  have k1 : decide (k < 1) = false := by simp; omega
  have k2 : decide (7 < k) = true := by simp; omega
  clear h
  have HB1 := hide hb0
  clear hb0 c1
  go_enter Try.func78, Try.ntmps78
  go_wp2_with fail
  go_ret
  exact ⟨rfl, HB1.out⟩
set_option maxRecDepth 100000 in
set_option maxHeartbeats 4000000 in
theorem rw_1_to (ht : badR to = true) : Calls Try.prog 78 #[.pointer (some ⟨Bm, 0, none⟩), .agg #[.int .i64 1, .int .i64 to, .int .i64 fr, .int .i64 at_, .int .i64 n]] w fun e w' => e = .returned (.int .i64 2) ∧ Below w.heap.size w w' := by
  have hb0 : Below w.heap.size w (w.alloc (.cells #[.int .i64 1, .int .i64 to, .int .i64 fr, .int .i64 at_, .int .i64 n] 39)) := (Below.refl _ w).alloc (Nat.le_refl _) _
  obtain ⟨c1, c2, c3⟩ := (Blk.new w 39 #[.int .i64 1, .int .i64 to, .int .i64 fr, .int .i64 at_, .int .i64 n]).rules
  have c4 := (c1 0).trans (show _ = some (.int .i64 1) from rfl)
  have c5 := (c1 1).trans (show _ = some (.int .i64 to) from rfl)
  have c6 := (c1 2).trans (show _ = some (.int .i64 fr) from rfl)
  have c7 := (c1 4).trans (show _ = some (.int .i64 n) from rfl)
  have HB1 := hide hb0
  clear hb0 c1
  go_enter Try.func78, Try.ntmps78
  go_wp2_with fail
  refine (reg_any _ to true ht).mono ?_
  rintro e wto ⟨rfl, rfl⟩
  clear ht
  go_wp2_with fail
  go_ret
  exact ⟨rfl, HB1.out⟩
set_option maxRecDepth 100000 in
set_option maxHeartbeats 4000000 in
theorem rw_1_lo (ht : badR to = false) (h : n < 0) : Calls Try.prog 78 #[.pointer (some ⟨Bm, 0, none⟩), .agg #[.int .i64 1, .int .i64 to, .int .i64 fr, .int .i64 at_, .int .i64 n]] w fun e w' => e = .returned (.int .i64 3) ∧ Below w.heap.size w w' := by
  have hb0 : Below w.heap.size w (w.alloc (.cells #[.int .i64 1, .int .i64 to, .int .i64 fr, .int .i64 at_, .int .i64 n] 39)) := (Below.refl _ w).alloc (Nat.le_refl _) _
  obtain ⟨c1, c2, c3⟩ := (Blk.new w 39 #[.int .i64 1, .int .i64 to, .int .i64 fr, .int .i64 at_, .int .i64 n]).rules
  have c4 := (c1 0).trans (show _ = some (.int .i64 1) from rfl)
  have c5 := (c1 1).trans (show _ = some (.int .i64 to) from rfl)
  have c6 := (c1 2).trans (show _ = some (.int .i64 fr) from rfl)
  have c7 := (c1 4).trans (show _ = some (.int .i64 n) from rfl)
  have t1 : decide (n < 0) = true := by simp; omega
  clear h
  have HB1 := hide hb0
  clear hb0 c1
  go_enter Try.func78, Try.ntmps78
  go_wp2_with fail
  refine (reg_any _ to false ht).mono ?_
  rintro e wto ⟨rfl, rfl⟩
  clear ht
  go_wp2_with fail
  go_ret
  exact ⟨rfl, HB1.out⟩
set_option maxRecDepth 100000 in
set_option maxHeartbeats 4000000 in
theorem rw_1_hi (ht : badR to = false) (h : 4 < n) : Calls Try.prog 78 #[.pointer (some ⟨Bm, 0, none⟩), .agg #[.int .i64 1, .int .i64 to, .int .i64 fr, .int .i64 at_, .int .i64 n]] w fun e w' => e = .returned (.int .i64 3) ∧ Below w.heap.size w w' := by
  have hb0 : Below w.heap.size w (w.alloc (.cells #[.int .i64 1, .int .i64 to, .int .i64 fr, .int .i64 at_, .int .i64 n] 39)) := (Below.refl _ w).alloc (Nat.le_refl _) _
  obtain ⟨c1, c2, c3⟩ := (Blk.new w 39 #[.int .i64 1, .int .i64 to, .int .i64 fr, .int .i64 at_, .int .i64 n]).rules
  have c4 := (c1 0).trans (show _ = some (.int .i64 1) from rfl)
  have c5 := (c1 1).trans (show _ = some (.int .i64 to) from rfl)
  have c6 := (c1 2).trans (show _ = some (.int .i64 fr) from rfl)
  have c7 := (c1 4).trans (show _ = some (.int .i64 n) from rfl)
  have t1 : decide (n < 0) = false := by simp; omega
  have t2 : decide (4 < n) = true := by simp; omega
  clear h
  have HB1 := hide hb0
  clear hb0 c1
  go_enter Try.func78, Try.ntmps78
  go_wp2_with fail
  refine (reg_any _ to false ht).mono ?_
  rintro e wto ⟨rfl, rfl⟩
  clear ht
  go_wp2_with fail
  go_ret
  exact ⟨rfl, HB1.out⟩
set_option maxRecDepth 100000 in
set_option maxHeartbeats 4000000 in
theorem rw_1_ok (ht : badR to = false) (h : 0 ≤ n) (h2 : n ≤ 4) : Calls Try.prog 78 #[.pointer (some ⟨Bm, 0, none⟩), .agg #[.int .i64 1, .int .i64 to, .int .i64 fr, .int .i64 at_, .int .i64 n]] w fun e w' => e = .returned (.int .i64 0) ∧ Below w.heap.size w w' := by
  have hb0 : Below w.heap.size w (w.alloc (.cells #[.int .i64 1, .int .i64 to, .int .i64 fr, .int .i64 at_, .int .i64 n] 39)) := (Below.refl _ w).alloc (Nat.le_refl _) _
  obtain ⟨c1, c2, c3⟩ := (Blk.new w 39 #[.int .i64 1, .int .i64 to, .int .i64 fr, .int .i64 at_, .int .i64 n]).rules
  have c4 := (c1 0).trans (show _ = some (.int .i64 1) from rfl)
  have c5 := (c1 1).trans (show _ = some (.int .i64 to) from rfl)
  have c6 := (c1 2).trans (show _ = some (.int .i64 fr) from rfl)
  have c7 := (c1 4).trans (show _ = some (.int .i64 n) from rfl)
  have t1 : decide (n < 0) = false := by simp; omega
  have t2 : decide (4 < n) = false := by simp; omega
  clear h h2
  have HB1 := hide hb0
  clear hb0 c1
  go_enter Try.func78, Try.ntmps78
  go_wp2_with fail
  refine (reg_any _ to false ht).mono ?_
  rintro e wto ⟨rfl, rfl⟩
  clear ht
  go_wp2_with fail
  go_ret
  exact ⟨rfl, HB1.out⟩
set_option maxRecDepth 100000 in
set_option maxHeartbeats 4000000 in
theorem rw_2_to (ht : badR to = true) : Calls Try.prog 78 #[.pointer (some ⟨Bm, 0, none⟩), .agg #[.int .i64 2, .int .i64 to, .int .i64 fr, .int .i64 at_, .int .i64 n]] w fun e w' => e = .returned (.int .i64 2) ∧ Below w.heap.size w w' := by
  have hb0 : Below w.heap.size w (w.alloc (.cells #[.int .i64 2, .int .i64 to, .int .i64 fr, .int .i64 at_, .int .i64 n] 39)) := (Below.refl _ w).alloc (Nat.le_refl _) _
  obtain ⟨c1, c2, c3⟩ := (Blk.new w 39 #[.int .i64 2, .int .i64 to, .int .i64 fr, .int .i64 at_, .int .i64 n]).rules
  have c4 := (c1 0).trans (show _ = some (.int .i64 2) from rfl)
  have c5 := (c1 1).trans (show _ = some (.int .i64 to) from rfl)
  have c6 := (c1 2).trans (show _ = some (.int .i64 fr) from rfl)
  have c7 := (c1 4).trans (show _ = some (.int .i64 n) from rfl)
  have HB1 := hide hb0
  clear hb0 c1
  go_enter Try.func78, Try.ntmps78
  go_wp2_with fail
  refine (reg_any _ to true ht).mono ?_
  rintro e wto ⟨rfl, rfl⟩
  clear ht
  go_wp2_with fail
  go_ret
  exact ⟨rfl, HB1.out⟩
set_option maxRecDepth 100000 in
set_option maxHeartbeats 4000000 in
theorem rw_2_lo (ht : badR to = false) (h : n < -4611686018427387904) : Calls Try.prog 78 #[.pointer (some ⟨Bm, 0, none⟩), .agg #[.int .i64 2, .int .i64 to, .int .i64 fr, .int .i64 at_, .int .i64 n]] w fun e w' => e = .returned (.int .i64 3) ∧ Below w.heap.size w w' := by
  have hb0 : Below w.heap.size w (w.alloc (.cells #[.int .i64 2, .int .i64 to, .int .i64 fr, .int .i64 at_, .int .i64 n] 39)) := (Below.refl _ w).alloc (Nat.le_refl _) _
  obtain ⟨c1, c2, c3⟩ := (Blk.new w 39 #[.int .i64 2, .int .i64 to, .int .i64 fr, .int .i64 at_, .int .i64 n]).rules
  have c4 := (c1 0).trans (show _ = some (.int .i64 2) from rfl)
  have c5 := (c1 1).trans (show _ = some (.int .i64 to) from rfl)
  have c6 := (c1 2).trans (show _ = some (.int .i64 fr) from rfl)
  have c7 := (c1 4).trans (show _ = some (.int .i64 n) from rfl)
  have t1 : decide (n < -4611686018427387904) = true := by simp; omega
  clear h
  have HB1 := hide hb0
  clear hb0 c1
  go_enter Try.func78, Try.ntmps78
  go_wp2_with fail
  refine (reg_any _ to false ht).mono ?_
  rintro e wto ⟨rfl, rfl⟩
  clear ht
  go_wp2_with fail
  go_ret
  exact ⟨rfl, HB1.out⟩
set_option maxRecDepth 100000 in
set_option maxHeartbeats 4000000 in
theorem rw_2_hi (ht : badR to = false) (h : 4611686018427387903 < n) : Calls Try.prog 78 #[.pointer (some ⟨Bm, 0, none⟩), .agg #[.int .i64 2, .int .i64 to, .int .i64 fr, .int .i64 at_, .int .i64 n]] w fun e w' => e = .returned (.int .i64 3) ∧ Below w.heap.size w w' := by
  have hb0 : Below w.heap.size w (w.alloc (.cells #[.int .i64 2, .int .i64 to, .int .i64 fr, .int .i64 at_, .int .i64 n] 39)) := (Below.refl _ w).alloc (Nat.le_refl _) _
  obtain ⟨c1, c2, c3⟩ := (Blk.new w 39 #[.int .i64 2, .int .i64 to, .int .i64 fr, .int .i64 at_, .int .i64 n]).rules
  have c4 := (c1 0).trans (show _ = some (.int .i64 2) from rfl)
  have c5 := (c1 1).trans (show _ = some (.int .i64 to) from rfl)
  have c6 := (c1 2).trans (show _ = some (.int .i64 fr) from rfl)
  have c7 := (c1 4).trans (show _ = some (.int .i64 n) from rfl)
  have t1 : decide (n < -4611686018427387904) = false := by simp; omega
  have t2 : decide (4611686018427387903 < n) = true := by simp; omega
  clear h
  have HB1 := hide hb0
  clear hb0 c1
  go_enter Try.func78, Try.ntmps78
  go_wp2_with fail
  refine (reg_any _ to false ht).mono ?_
  rintro e wto ⟨rfl, rfl⟩
  clear ht
  go_wp2_with fail
  go_ret
  exact ⟨rfl, HB1.out⟩
set_option maxRecDepth 100000 in
set_option maxHeartbeats 4000000 in
theorem rw_2_ok (ht : badR to = false) (h : -4611686018427387904 ≤ n) (h2 : n ≤ 4611686018427387903) : Calls Try.prog 78 #[.pointer (some ⟨Bm, 0, none⟩), .agg #[.int .i64 2, .int .i64 to, .int .i64 fr, .int .i64 at_, .int .i64 n]] w fun e w' => e = .returned (.int .i64 0) ∧ Below w.heap.size w w' := by
  have hb0 : Below w.heap.size w (w.alloc (.cells #[.int .i64 2, .int .i64 to, .int .i64 fr, .int .i64 at_, .int .i64 n] 39)) := (Below.refl _ w).alloc (Nat.le_refl _) _
  obtain ⟨c1, c2, c3⟩ := (Blk.new w 39 #[.int .i64 2, .int .i64 to, .int .i64 fr, .int .i64 at_, .int .i64 n]).rules
  have c4 := (c1 0).trans (show _ = some (.int .i64 2) from rfl)
  have c5 := (c1 1).trans (show _ = some (.int .i64 to) from rfl)
  have c6 := (c1 2).trans (show _ = some (.int .i64 fr) from rfl)
  have c7 := (c1 4).trans (show _ = some (.int .i64 n) from rfl)
  have t1 : decide (n < -4611686018427387904) = false := by simp; omega
  have t2 : decide (4611686018427387903 < n) = false := by simp; omega
  clear h h2
  have HB1 := hide hb0
  clear hb0 c1
  go_enter Try.func78, Try.ntmps78
  go_wp2_with fail
  refine (reg_any _ to false ht).mono ?_
  rintro e wto ⟨rfl, rfl⟩
  clear ht
  go_wp2_with fail
  go_ret
  exact ⟨rfl, HB1.out⟩
set_option maxRecDepth 100000 in
set_option maxHeartbeats 4000000 in
theorem rw_3_to (ht : badR to = true) : Calls Try.prog 78 #[.pointer (some ⟨Bm, 0, none⟩), .agg #[.int .i64 3, .int .i64 to, .int .i64 fr, .int .i64 at_, .int .i64 n]] w fun e w' => e = .returned (.int .i64 2) ∧ Below w.heap.size w w' := by
  have hb0 : Below w.heap.size w (w.alloc (.cells #[.int .i64 3, .int .i64 to, .int .i64 fr, .int .i64 at_, .int .i64 n] 39)) := (Below.refl _ w).alloc (Nat.le_refl _) _
  obtain ⟨c1, c2, c3⟩ := (Blk.new w 39 #[.int .i64 3, .int .i64 to, .int .i64 fr, .int .i64 at_, .int .i64 n]).rules
  have c4 := (c1 0).trans (show _ = some (.int .i64 3) from rfl)
  have c5 := (c1 1).trans (show _ = some (.int .i64 to) from rfl)
  have c6 := (c1 2).trans (show _ = some (.int .i64 fr) from rfl)
  have c7 := (c1 4).trans (show _ = some (.int .i64 n) from rfl)
  have HB1 := hide hb0
  clear hb0 c1
  go_enter Try.func78, Try.ntmps78
  go_wp2_with fail
  refine (reg_any _ to true ht).mono ?_
  rintro e wto ⟨rfl, rfl⟩
  clear ht
  go_wp2_with fail
  go_ret
  exact ⟨rfl, HB1.out⟩
set_option maxRecDepth 100000 in
set_option maxHeartbeats 4000000 in
theorem rw_3_fr (ht : badR to = false) (hf : badR fr = true) : Calls Try.prog 78 #[.pointer (some ⟨Bm, 0, none⟩), .agg #[.int .i64 3, .int .i64 to, .int .i64 fr, .int .i64 at_, .int .i64 n]] w fun e w' => e = .returned (.int .i64 2) ∧ Below w.heap.size w w' := by
  have hb0 : Below w.heap.size w (w.alloc (.cells #[.int .i64 3, .int .i64 to, .int .i64 fr, .int .i64 at_, .int .i64 n] 39)) := (Below.refl _ w).alloc (Nat.le_refl _) _
  obtain ⟨c1, c2, c3⟩ := (Blk.new w 39 #[.int .i64 3, .int .i64 to, .int .i64 fr, .int .i64 at_, .int .i64 n]).rules
  have c4 := (c1 0).trans (show _ = some (.int .i64 3) from rfl)
  have c5 := (c1 1).trans (show _ = some (.int .i64 to) from rfl)
  have c6 := (c1 2).trans (show _ = some (.int .i64 fr) from rfl)
  have c7 := (c1 4).trans (show _ = some (.int .i64 n) from rfl)
  have HB1 := hide hb0
  clear hb0 c1
  go_enter Try.func78, Try.ntmps78
  go_wp2_with fail
  refine (reg_any _ to false ht).mono ?_
  rintro e wto ⟨rfl, rfl⟩
  clear ht
  go_wp2_with fail
  refine (reg_any _ fr true hf).mono ?_
  rintro e wfr ⟨rfl, rfl⟩
  clear hf
  go_wp2_with fail
  go_ret
  exact ⟨rfl, HB1.out⟩
set_option maxRecDepth 100000 in
set_option maxHeartbeats 4000000 in
theorem rw_3_ok (ht : badR to = false) (hf : badR fr = false) : Calls Try.prog 78 #[.pointer (some ⟨Bm, 0, none⟩), .agg #[.int .i64 3, .int .i64 to, .int .i64 fr, .int .i64 at_, .int .i64 n]] w fun e w' => e = .returned (.int .i64 0) ∧ Below w.heap.size w w' := by
  have hb0 : Below w.heap.size w (w.alloc (.cells #[.int .i64 3, .int .i64 to, .int .i64 fr, .int .i64 at_, .int .i64 n] 39)) := (Below.refl _ w).alloc (Nat.le_refl _) _
  obtain ⟨c1, c2, c3⟩ := (Blk.new w 39 #[.int .i64 3, .int .i64 to, .int .i64 fr, .int .i64 at_, .int .i64 n]).rules
  have c4 := (c1 0).trans (show _ = some (.int .i64 3) from rfl)
  have c5 := (c1 1).trans (show _ = some (.int .i64 to) from rfl)
  have c6 := (c1 2).trans (show _ = some (.int .i64 fr) from rfl)
  have c7 := (c1 4).trans (show _ = some (.int .i64 n) from rfl)
  have HB1 := hide hb0
  clear hb0 c1
  go_enter Try.func78, Try.ntmps78
  go_wp2_with fail
  refine (reg_any _ to false ht).mono ?_
  rintro e wto ⟨rfl, rfl⟩
  clear ht
  go_wp2_with fail
  refine (reg_any _ fr false hf).mono ?_
  rintro e wfr ⟨rfl, rfl⟩
  clear hf
  go_wp2_with fail
  go_ret
  exact ⟨rfl, HB1.out⟩
set_option maxRecDepth 100000 in
set_option maxHeartbeats 4000000 in
theorem rw_6_to (ht : badR to = true) : Calls Try.prog 78 #[.pointer (some ⟨Bm, 0, none⟩), .agg #[.int .i64 6, .int .i64 to, .int .i64 fr, .int .i64 at_, .int .i64 n]] w fun e w' => e = .returned (.int .i64 2) ∧ Below w.heap.size w w' := by
  have hb0 : Below w.heap.size w (w.alloc (.cells #[.int .i64 6, .int .i64 to, .int .i64 fr, .int .i64 at_, .int .i64 n] 39)) := (Below.refl _ w).alloc (Nat.le_refl _) _
  obtain ⟨c1, c2, c3⟩ := (Blk.new w 39 #[.int .i64 6, .int .i64 to, .int .i64 fr, .int .i64 at_, .int .i64 n]).rules
  have c4 := (c1 0).trans (show _ = some (.int .i64 6) from rfl)
  have c5 := (c1 1).trans (show _ = some (.int .i64 to) from rfl)
  have c6 := (c1 2).trans (show _ = some (.int .i64 fr) from rfl)
  have c7 := (c1 4).trans (show _ = some (.int .i64 n) from rfl)
  have HB1 := hide hb0
  clear hb0 c1
  go_enter Try.func78, Try.ntmps78
  go_wp2_with fail
  refine (reg_any _ to true ht).mono ?_
  rintro e wto ⟨rfl, rfl⟩
  clear ht
  go_wp2_with fail
  go_ret
  exact ⟨rfl, HB1.out⟩
set_option maxRecDepth 100000 in
set_option maxHeartbeats 4000000 in
theorem rw_6_fr (ht : badR to = false) (hf : badR fr = true) : Calls Try.prog 78 #[.pointer (some ⟨Bm, 0, none⟩), .agg #[.int .i64 6, .int .i64 to, .int .i64 fr, .int .i64 at_, .int .i64 n]] w fun e w' => e = .returned (.int .i64 2) ∧ Below w.heap.size w w' := by
  have hb0 : Below w.heap.size w (w.alloc (.cells #[.int .i64 6, .int .i64 to, .int .i64 fr, .int .i64 at_, .int .i64 n] 39)) := (Below.refl _ w).alloc (Nat.le_refl _) _
  obtain ⟨c1, c2, c3⟩ := (Blk.new w 39 #[.int .i64 6, .int .i64 to, .int .i64 fr, .int .i64 at_, .int .i64 n]).rules
  have c4 := (c1 0).trans (show _ = some (.int .i64 6) from rfl)
  have c5 := (c1 1).trans (show _ = some (.int .i64 to) from rfl)
  have c6 := (c1 2).trans (show _ = some (.int .i64 fr) from rfl)
  have c7 := (c1 4).trans (show _ = some (.int .i64 n) from rfl)
  have HB1 := hide hb0
  clear hb0 c1
  go_enter Try.func78, Try.ntmps78
  go_wp2_with fail
  refine (reg_any _ to false ht).mono ?_
  rintro e wto ⟨rfl, rfl⟩
  clear ht
  go_wp2_with fail
  refine (reg_any _ fr true hf).mono ?_
  rintro e wfr ⟨rfl, rfl⟩
  clear hf
  go_wp2_with fail
  go_ret
  exact ⟨rfl, HB1.out⟩
set_option maxRecDepth 100000 in
set_option maxHeartbeats 4000000 in
theorem rw_6_ok (ht : badR to = false) (hf : badR fr = false) : Calls Try.prog 78 #[.pointer (some ⟨Bm, 0, none⟩), .agg #[.int .i64 6, .int .i64 to, .int .i64 fr, .int .i64 at_, .int .i64 n]] w fun e w' => e = .returned (.int .i64 0) ∧ Below w.heap.size w w' := by
  have hb0 : Below w.heap.size w (w.alloc (.cells #[.int .i64 6, .int .i64 to, .int .i64 fr, .int .i64 at_, .int .i64 n] 39)) := (Below.refl _ w).alloc (Nat.le_refl _) _
  obtain ⟨c1, c2, c3⟩ := (Blk.new w 39 #[.int .i64 6, .int .i64 to, .int .i64 fr, .int .i64 at_, .int .i64 n]).rules
  have c4 := (c1 0).trans (show _ = some (.int .i64 6) from rfl)
  have c5 := (c1 1).trans (show _ = some (.int .i64 to) from rfl)
  have c6 := (c1 2).trans (show _ = some (.int .i64 fr) from rfl)
  have c7 := (c1 4).trans (show _ = some (.int .i64 n) from rfl)
  have HB1 := hide hb0
  clear hb0 c1
  go_enter Try.func78, Try.ntmps78
  go_wp2_with fail
  refine (reg_any _ to false ht).mono ?_
  rintro e wto ⟨rfl, rfl⟩
  clear ht
  go_wp2_with fail
  refine (reg_any _ fr false hf).mono ?_
  rintro e wfr ⟨rfl, rfl⟩
  clear hf
  go_wp2_with fail
  go_ret
  exact ⟨rfl, HB1.out⟩
set_option maxRecDepth 100000 in
set_option maxHeartbeats 4000000 in
theorem rw_7_fr (hf : badR fr = true) : Calls Try.prog 78 #[.pointer (some ⟨Bm, 0, none⟩), .agg #[.int .i64 7, .int .i64 to, .int .i64 fr, .int .i64 at_, .int .i64 n]] w fun e w' => e = .returned (.int .i64 2) ∧ Below w.heap.size w w' := by
  have hb0 : Below w.heap.size w (w.alloc (.cells #[.int .i64 7, .int .i64 to, .int .i64 fr, .int .i64 at_, .int .i64 n] 39)) := (Below.refl _ w).alloc (Nat.le_refl _) _
  obtain ⟨c1, c2, c3⟩ := (Blk.new w 39 #[.int .i64 7, .int .i64 to, .int .i64 fr, .int .i64 at_, .int .i64 n]).rules
  have c4 := (c1 0).trans (show _ = some (.int .i64 7) from rfl)
  have c5 := (c1 1).trans (show _ = some (.int .i64 to) from rfl)
  have c6 := (c1 2).trans (show _ = some (.int .i64 fr) from rfl)
  have c7 := (c1 4).trans (show _ = some (.int .i64 n) from rfl)
  have HB1 := hide hb0
  clear hb0 c1
  go_enter Try.func78, Try.ntmps78
  go_wp2_with fail
  refine (reg_any _ fr true hf).mono ?_
  rintro e wfr ⟨rfl, rfl⟩
  clear hf
  go_wp2_with fail
  go_ret
  exact ⟨rfl, HB1.out⟩
set_option maxRecDepth 100000 in
set_option maxHeartbeats 4000000 in
theorem rw_7_ok (hf : badR fr = false) : Calls Try.prog 78 #[.pointer (some ⟨Bm, 0, none⟩), .agg #[.int .i64 7, .int .i64 to, .int .i64 fr, .int .i64 at_, .int .i64 n]] w fun e w' => e = .returned (.int .i64 0) ∧ Below w.heap.size w w' := by
  have hb0 : Below w.heap.size w (w.alloc (.cells #[.int .i64 7, .int .i64 to, .int .i64 fr, .int .i64 at_, .int .i64 n] 39)) := (Below.refl _ w).alloc (Nat.le_refl _) _
  obtain ⟨c1, c2, c3⟩ := (Blk.new w 39 #[.int .i64 7, .int .i64 to, .int .i64 fr, .int .i64 at_, .int .i64 n]).rules
  have c4 := (c1 0).trans (show _ = some (.int .i64 7) from rfl)
  have c5 := (c1 1).trans (show _ = some (.int .i64 to) from rfl)
  have c6 := (c1 2).trans (show _ = some (.int .i64 fr) from rfl)
  have c7 := (c1 4).trans (show _ = some (.int .i64 n) from rfl)
  have HB1 := hide hb0
  clear hb0 c1
  go_enter Try.func78, Try.ntmps78
  go_wp2_with fail
  refine (reg_any _ fr false hf).mono ?_
  rintro e wfr ⟨rfl, rfl⟩
  clear hf
  go_wp2_with fail
  go_ret
  exact ⟨rfl, HB1.out⟩
set_option maxRecDepth 100000 in
set_option maxHeartbeats 4000000 in
theorem rw_4_to (ht : badR to = true) : Calls Try.prog 78 #[.pointer (some ⟨Bm, 0, none⟩), .agg #[.int .i64 4, .int .i64 to, .int .i64 fr, .int .i64 at_, .int .i64 n]] w fun e w' => e = .returned (.int .i64 2) ∧ Below w.heap.size w w' := by
  have hb0 : Below w.heap.size w (w.alloc (.cells #[.int .i64 4, .int .i64 to, .int .i64 fr, .int .i64 at_, .int .i64 n] 39)) := (Below.refl _ w).alloc (Nat.le_refl _) _
  obtain ⟨c1, c2, c3⟩ := (Blk.new w 39 #[.int .i64 4, .int .i64 to, .int .i64 fr, .int .i64 at_, .int .i64 n]).rules
  have c4 := (c1 0).trans (show _ = some (.int .i64 4) from rfl)
  have c5 := (c1 1).trans (show _ = some (.int .i64 to) from rfl)
  have c6 := (c1 2).trans (show _ = some (.int .i64 fr) from rfl)
  have c7 := (c1 4).trans (show _ = some (.int .i64 n) from rfl)
  have HB1 := hide hb0
  clear hb0 c1
  go_enter Try.func78, Try.ntmps78
  go_wp2_with fail
  refine (reg_any _ to true ht).mono ?_
  rintro e wto ⟨rfl, rfl⟩
  clear ht
  go_wp2_with fail
  go_ret
  exact ⟨rfl, HB1.out⟩
set_option maxRecDepth 100000 in
set_option maxHeartbeats 4000000 in
theorem rw_4_fr (ht : badR to = false) (hf : badR fr = true) : Calls Try.prog 78 #[.pointer (some ⟨Bm, 0, none⟩), .agg #[.int .i64 4, .int .i64 to, .int .i64 fr, .int .i64 at_, .int .i64 n]] w fun e w' => e = .returned (.int .i64 2) ∧ Below w.heap.size w w' := by
  have hb0 : Below w.heap.size w (w.alloc (.cells #[.int .i64 4, .int .i64 to, .int .i64 fr, .int .i64 at_, .int .i64 n] 39)) := (Below.refl _ w).alloc (Nat.le_refl _) _
  obtain ⟨c1, c2, c3⟩ := (Blk.new w 39 #[.int .i64 4, .int .i64 to, .int .i64 fr, .int .i64 at_, .int .i64 n]).rules
  have c4 := (c1 0).trans (show _ = some (.int .i64 4) from rfl)
  have c5 := (c1 1).trans (show _ = some (.int .i64 to) from rfl)
  have c6 := (c1 2).trans (show _ = some (.int .i64 fr) from rfl)
  have c7 := (c1 4).trans (show _ = some (.int .i64 n) from rfl)
  have HB1 := hide hb0
  clear hb0 c1
  go_enter Try.func78, Try.ntmps78
  go_wp2_with fail
  refine (reg_any _ to false ht).mono ?_
  rintro e wto ⟨rfl, rfl⟩
  clear ht
  go_wp2_with fail
  refine (reg_any _ fr true hf).mono ?_
  rintro e wfr ⟨rfl, rfl⟩
  clear hf
  go_wp2_with fail
  go_ret
  exact ⟨rfl, HB1.out⟩
set_option maxRecDepth 100000 in
set_option maxHeartbeats 4000000 in
theorem rw_5_to (ht : badR to = true) : Calls Try.prog 78 #[.pointer (some ⟨Bm, 0, none⟩), .agg #[.int .i64 5, .int .i64 to, .int .i64 fr, .int .i64 at_, .int .i64 n]] w fun e w' => e = .returned (.int .i64 2) ∧ Below w.heap.size w w' := by
  have hb0 : Below w.heap.size w (w.alloc (.cells #[.int .i64 5, .int .i64 to, .int .i64 fr, .int .i64 at_, .int .i64 n] 39)) := (Below.refl _ w).alloc (Nat.le_refl _) _
  obtain ⟨c1, c2, c3⟩ := (Blk.new w 39 #[.int .i64 5, .int .i64 to, .int .i64 fr, .int .i64 at_, .int .i64 n]).rules
  have c4 := (c1 0).trans (show _ = some (.int .i64 5) from rfl)
  have c5 := (c1 1).trans (show _ = some (.int .i64 to) from rfl)
  have c6 := (c1 2).trans (show _ = some (.int .i64 fr) from rfl)
  have c7 := (c1 4).trans (show _ = some (.int .i64 n) from rfl)
  have HB1 := hide hb0
  clear hb0 c1
  go_enter Try.func78, Try.ntmps78
  go_wp2_with fail
  refine (reg_any _ to true ht).mono ?_
  rintro e wto ⟨rfl, rfl⟩
  clear ht
  go_wp2_with fail
  go_ret
  exact ⟨rfl, HB1.out⟩
set_option maxRecDepth 100000 in
set_option maxHeartbeats 4000000 in
theorem rw_5_fr (ht : badR to = false) (hf : badR fr = true) : Calls Try.prog 78 #[.pointer (some ⟨Bm, 0, none⟩), .agg #[.int .i64 5, .int .i64 to, .int .i64 fr, .int .i64 at_, .int .i64 n]] w fun e w' => e = .returned (.int .i64 2) ∧ Below w.heap.size w w' := by
  have hb0 : Below w.heap.size w (w.alloc (.cells #[.int .i64 5, .int .i64 to, .int .i64 fr, .int .i64 at_, .int .i64 n] 39)) := (Below.refl _ w).alloc (Nat.le_refl _) _
  obtain ⟨c1, c2, c3⟩ := (Blk.new w 39 #[.int .i64 5, .int .i64 to, .int .i64 fr, .int .i64 at_, .int .i64 n]).rules
  have c4 := (c1 0).trans (show _ = some (.int .i64 5) from rfl)
  have c5 := (c1 1).trans (show _ = some (.int .i64 to) from rfl)
  have c6 := (c1 2).trans (show _ = some (.int .i64 fr) from rfl)
  have c7 := (c1 4).trans (show _ = some (.int .i64 n) from rfl)
  have HB1 := hide hb0
  clear hb0 c1
  go_enter Try.func78, Try.ntmps78
  go_wp2_with fail
  refine (reg_any _ to false ht).mono ?_
  rintro e wto ⟨rfl, rfl⟩
  clear ht
  go_wp2_with fail
  refine (reg_any _ fr true hf).mono ?_
  rintro e wfr ⟨rfl, rfl⟩
  clear hf
  go_wp2_with fail
  go_ret
  exact ⟨rfl, HB1.out⟩
end
end Go.Proofs.Ytjphckfbbiehdaa
