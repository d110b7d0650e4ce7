/- The laws WordsHeads and WordsPacks: the walks. -/
import Derived.Test.YtpbafmdebflbpaaPack
namespace Go.Proofs.Ytpbafmdebflbpaa
open Go.RowKit

set_option maxHeartbeats 800000 in
theorem wordsHeads_walk (w : World) (len age n : Int) (mark : Bool) (h1 : 0 ≤ n) (h2 : n ≤ 18446744073709551615) :
    Calls Try.prog 3 #[.agg #[.int .i64 len, .bool mark, .int .i64 age], .int .u64 n] w fun e w' => e = .returned (.bool true) ∧ Below w.heap.size w w' := by
  by_cases hh : headOK len age
  · by_cases hu : unheadOK n
    · go_enter Try.func3, Try.ntmps3
      go_wp2_with fail
      refine (head14_ok _ len age mark hh.1 hh.2.1 hh.2.2.1 hh.2.2.2).mono ?_
      rintro e w1 ⟨rfl, hb1⟩
      obtain ⟨r1, r2, r3⟩ := ((Blk.new w 23 _).below_ hb1).rules
      have hz := hb1.size
      simp at hz
      go_wp2_with fail
      refine (head15_ok _ len age mark hh.1 hh.2.1 hh.2.2.1 hh.2.2.2).mono ?_
      rintro e w2 ⟨rfl, hb2⟩
      go_wp2_with fail
      refine (unheadP_ok _ n h1 h2 hu).mono ?_
      rintro e w3 ⟨rfl, hb3⟩
      go_wp2_with fail
      refine (unheadR_ok _ n h1 h2 hu).mono ?_
      rintro e w4 ⟨rfl, hb4⟩
      obtain ⟨q1, q2, q3⟩ := ((Blk.new w3 23 _).below_ hb4).rules
      have hz2 := hb2.size
      have hz3 := hb3.size
      have hz4 := hb4.size
      simp at hz4
      clear r1 r2 r3
      go_wp2
      go_ret
      exact ⟨rfl, (by repeat (first | with_reducible exact Below.refl _ _ | with_reducible (refine Below.setCell ?_ (by first | omega | (simp; done) | (simp; omega)) _) | with_reducible (refine Below.alloc ?_ (by first | omega | (simp; done) | (simp; omega)) _) | with_reducible refine Below.drew ?_ | with_reducible refine below_drewN ?_ _ | with_reducible (refine Below.trans ?_ (Below.mono hb4 (by first | omega | (simp; done) | (simp; omega)))) | with_reducible (refine Below.trans ?_ (Below.mono hb3 (by first | omega | (simp; done) | (simp; omega)))) | with_reducible (refine Below.trans ?_ (Below.mono hb2 (by first | omega | (simp; done) | (simp; omega)))) | with_reducible (refine Below.trans ?_ (Below.mono hb1 (by first | omega | (simp; done) | (simp; omega))))))⟩
    · go_enter Try.func3, Try.ntmps3
      go_wp2_with fail
      refine (head14_ok _ len age mark hh.1 hh.2.1 hh.2.2.1 hh.2.2.2).mono ?_
      rintro e w1 ⟨rfl, hb1⟩
      obtain ⟨r1, r2, r3⟩ := ((Blk.new w 23 _).below_ hb1).rules
      have hz := hb1.size
      simp at hz
      go_wp2_with fail
      refine (head15_ok _ len age mark hh.1 hh.2.1 hh.2.2.1 hh.2.2.2).mono ?_
      rintro e w2 ⟨rfl, hb2⟩
      go_wp2_with fail
      refine (unheadP_bad _ n h1 h2 hu).mono ?_
      rintro e w3 ⟨rfl, hb3⟩
      go_wp2_with fail
      refine (unheadR_bad _ n h1 h2 hu).mono ?_
      rintro e w4 ⟨rfl, hb4⟩
      obtain ⟨q1, q2, q3⟩ := ((Blk.new w3 23 _).below_ hb4).rules
      have hz2 := hb2.size
      have hz3 := hb3.size
      have hz4 := hb4.size
      simp at hz4
      clear r1 r2 r3
      go_wp2
      go_ret
      exact ⟨rfl, (by repeat (first | with_reducible exact Below.refl _ _ | with_reducible (refine Below.setCell ?_ (by first | omega | (simp; done) | (simp; omega)) _) | with_reducible (refine Below.alloc ?_ (by first | omega | (simp; done) | (simp; omega)) _) | with_reducible refine Below.drew ?_ | with_reducible refine below_drewN ?_ _ | with_reducible (refine Below.trans ?_ (Below.mono hb4 (by first | omega | (simp; done) | (simp; omega)))) | with_reducible (refine Below.trans ?_ (Below.mono hb3 (by first | omega | (simp; done) | (simp; omega)))) | with_reducible (refine Below.trans ?_ (Below.mono hb2 (by first | omega | (simp; done) | (simp; omega)))) | with_reducible (refine Below.trans ?_ (Below.mono hb1 (by first | omega | (simp; done) | (simp; omega))))))⟩
  · by_cases hu : unheadOK n
    · go_enter Try.func3, Try.ntmps3
      go_wp2_with fail
      refine (head14_bad _ len age mark hh).mono ?_
      rintro e w1 ⟨rfl, hb1⟩
      obtain ⟨r1, r2, r3⟩ := ((Blk.new w 23 _).below_ hb1).rules
      have hz := hb1.size
      simp at hz
      go_wp2_with fail
      refine (head15_bad _ len age mark hh).mono ?_
      rintro e w2 ⟨rfl, hb2⟩
      go_wp2_with fail
      refine (unheadP_ok _ n h1 h2 hu).mono ?_
      rintro e w3 ⟨rfl, hb3⟩
      go_wp2_with fail
      refine (unheadR_ok _ n h1 h2 hu).mono ?_
      rintro e w4 ⟨rfl, hb4⟩
      obtain ⟨q1, q2, q3⟩ := ((Blk.new w3 23 _).below_ hb4).rules
      have hz2 := hb2.size
      have hz3 := hb3.size
      have hz4 := hb4.size
      simp at hz4
      clear r1 r2 r3
      go_wp2
      go_ret
      exact ⟨rfl, (by repeat (first | with_reducible exact Below.refl _ _ | with_reducible (refine Below.setCell ?_ (by first | omega | (simp; done) | (simp; omega)) _) | with_reducible (refine Below.alloc ?_ (by first | omega | (simp; done) | (simp; omega)) _) | with_reducible refine Below.drew ?_ | with_reducible refine below_drewN ?_ _ | with_reducible (refine Below.trans ?_ (Below.mono hb4 (by first | omega | (simp; done) | (simp; omega)))) | with_reducible (refine Below.trans ?_ (Below.mono hb3 (by first | omega | (simp; done) | (simp; omega)))) | with_reducible (refine Below.trans ?_ (Below.mono hb2 (by first | omega | (simp; done) | (simp; omega)))) | with_reducible (refine Below.trans ?_ (Below.mono hb1 (by first | omega | (simp; done) | (simp; omega))))))⟩
    · go_enter Try.func3, Try.ntmps3
      go_wp2_with fail
      refine (head14_bad _ len age mark hh).mono ?_
      rintro e w1 ⟨rfl, hb1⟩
      obtain ⟨r1, r2, r3⟩ := ((Blk.new w 23 _).below_ hb1).rules
      have hz := hb1.size
      simp at hz
      go_wp2_with fail
      refine (head15_bad _ len age mark hh).mono ?_
      rintro e w2 ⟨rfl, hb2⟩
      go_wp2_with fail
      refine (unheadP_bad _ n h1 h2 hu).mono ?_
      rintro e w3 ⟨rfl, hb3⟩
      go_wp2_with fail
      refine (unheadR_bad _ n h1 h2 hu).mono ?_
      rintro e w4 ⟨rfl, hb4⟩
      obtain ⟨q1, q2, q3⟩ := ((Blk.new w3 23 _).below_ hb4).rules
      have hz2 := hb2.size
      have hz3 := hb3.size
      have hz4 := hb4.size
      simp at hz4
      clear r1 r2 r3
      go_wp2
      go_ret
      exact ⟨rfl, (by repeat (first | with_reducible exact Below.refl _ _ | with_reducible (refine Below.setCell ?_ (by first | omega | (simp; done) | (simp; omega)) _) | with_reducible (refine Below.alloc ?_ (by first | omega | (simp; done) | (simp; omega)) _) | with_reducible refine Below.drew ?_ | with_reducible refine below_drewN ?_ _ | with_reducible (refine Below.trans ?_ (Below.mono hb4 (by first | omega | (simp; done) | (simp; omega)))) | with_reducible (refine Below.trans ?_ (Below.mono hb3 (by first | omega | (simp; done) | (simp; omega)))) | with_reducible (refine Below.trans ?_ (Below.mono hb2 (by first | omega | (simp; done) | (simp; omega)))) | with_reducible (refine Below.trans ?_ (Below.mono hb1 (by first | omega | (simp; done) | (simp; omega))))))⟩

/-! ### One contract each, whatever the argument. -/
def packA (r : Bool) (n : Int) : Int := if r then (if 0 ≤ n ∧ n < 256 then 2 * n else 0) else (if -4611686018427387904 ≤ n ∧ n ≤ 4611686018427387903 then packN n else 0)
def packE (r : Bool) (n : Int) : Int := if r then (if 0 ≤ n ∧ n < 256 then 0 else 2) else (if -4611686018427387904 ≤ n ∧ n ≤ 4611686018427387903 then 0 else 3)
def unR (n : Int) : Bool := decide (n % 2 = 0 ∧ n < 512)
def unA (n : Int) : Int := if n % 2 = 1 then unN n else if n < 512 then n / 2 else 0
def unE (n : Int) : Int := if n % 2 = 1 then 0 else if n < 512 then 0 else 2

theorem packP_any (w : World) (r : Bool) (n : Int) :
    Calls Try.prog 18 #[.agg #[.bool r, .int .i64 n]] w fun e w' => e = .returned (.tuple #[.int .u64 (packA r n), .int .i64 (packE r n)]) ∧ Below w.heap.size w w' := by
  unfold packA packE
  cases r
  · simp only [Bool.false_eq_true, if_false]
    by_cases h : -4611686018427387904 ≤ n ∧ n ≤ 4611686018427387903
    · rw [if_pos h, if_pos h]; exact packP_num w n h.1 h.2
    · rw [if_neg h, if_neg h]; exact packP_numbad w n h
  · simp only [if_true]
    by_cases h : 0 ≤ n ∧ n < 256
    · rw [if_pos h, if_pos h]; exact packP_ref w n h.1 h.2
    · rw [if_neg h, if_neg h]; exact packP_refbad w n h

theorem packR_any (w : World) (r : Bool) (n : Int) :
    Calls Try.prog 19 #[.agg #[.bool r, .int .i64 n]] w fun e w' => e = .returned (.tuple #[.int .u64 (packA r n), .int .i64 (packE r n)]) ∧ Below w.heap.size w w' := by
  unfold packA packE
  cases r
  · simp only [Bool.false_eq_true, if_false]
    by_cases h : -4611686018427387904 ≤ n ∧ n ≤ 4611686018427387903
    · rw [if_pos h, if_pos h]; exact packR_num w n h.1 h.2
    · rw [if_neg h, if_neg h]; exact packR_numbad w n h
  · simp only [if_true]
    by_cases h : 0 ≤ n ∧ n < 256
    · rw [if_pos h, if_pos h]; exact packR_ref w n h.1 h.2
    · rw [if_neg h, if_neg h]; exact packR_refbad w n h

theorem unpackP_any (w : World) (n : Int) (h1 : 0 ≤ n) (h2 : n ≤ 18446744073709551615) :
    Calls Try.prog 20 #[.int .u64 n] w fun e w' => e = .returned (.tuple #[.agg #[.bool (unR n), .int .i64 (unA n)], .int .i64 (unE n)]) ∧ Below w.heap.size w w' := by
  unfold unR unA unE
  by_cases h : n % 2 = 1
  · rw [if_pos h, if_pos h, show decide (n % 2 = 0 ∧ n < 512) = false from by simp; omega]; exact unpackP_num w n h1 h2 h
  · rw [if_neg h, if_neg h]
    by_cases h3 : n < 512
    · rw [if_pos h3, if_pos h3, show decide (n % 2 = 0 ∧ n < 512) = true from by simp; omega]; exact unpackP_ref w n h1 h2 h3 (by omega)
    · rw [if_neg h3, if_neg h3, show decide (n % 2 = 0 ∧ n < 512) = false from by simp; omega]; exact unpackP_bad w n h1 h2 h3 (by omega)

theorem unpackR_any (w : World) (n : Int) (h1 : 0 ≤ n) (h2 : n ≤ 18446744073709551615) :
    Calls Try.prog 21 #[.int .u64 n] w fun e w' => e = .returned (.tuple #[.agg #[.bool (unR n), .int .i64 (unA n)], .int .i64 (unE n)]) ∧ Below w.heap.size w w' := by
  unfold unR unA unE
  by_cases h : n % 2 = 1
  · rw [if_pos h, if_pos h, show decide (n % 2 = 0 ∧ n < 512) = false from by simp; omega]; exact unpackR_num w n h1 h2 h
  · rw [if_neg h, if_neg h]
    by_cases h3 : n < 512
    · rw [if_pos h3, if_pos h3, show decide (n % 2 = 0 ∧ n < 512) = true from by simp; omega]; exact unpackR_ref w n h1 h2 h3 (by omega)
    · rw [if_neg h3, if_neg h3, show decide (n % 2 = 0 ∧ n < 512) = false from by simp; omega]; exact unpackR_bad w n h1 h2 h3 (by omega)

set_option maxHeartbeats 800000 in
theorem wordsPacks_walk (w : World) (v n : Int) (r : Bool) (h1 : 0 ≤ n) (h2 : n ≤ 18446744073709551615) :
    Calls Try.prog 4 #[.agg #[.bool r, .int .i64 v], .int .u64 n] w fun e w' => e = .returned (.bool true) ∧ Below w.heap.size w w' := by
  go_enter Try.func4, Try.ntmps4
  go_wp2_with fail
  refine (packP_any _ r v).mono ?_
  rintro e w1 ⟨rfl, hb1⟩
  obtain ⟨r1, r2, r3⟩ := ((Blk.new w 32 _).below_ hb1).rules
  have hz := hb1.size
  simp at hz
  go_wp2_with fail
  refine (packR_any _ r v).mono ?_
  rintro e w2 ⟨rfl, hb2⟩
  go_wp2_with fail
  refine (unpackP_any _ n h1 h2).mono ?_
  rintro e w3 ⟨rfl, hb3⟩
  go_wp2_with fail
  refine (unpackR_any _ n h1 h2).mono ?_
  rintro e w4 ⟨rfl, hb4⟩
  obtain ⟨q1, q2, q3⟩ := ((Blk.new w3 32 _).below_ hb4).rules
  have hz2 := hb2.size
  have hz3 := hb3.size
  have hz4 := hb4.size
  simp at hz4
  clear r1 r2 r3
  go_wp2
  go_ret
  exact ⟨rfl, (by repeat (first | with_reducible exact Below.refl _ _ | with_reducible (refine Below.setCell ?_ (by first | omega | (simp; done) | (simp; omega)) _) | with_reducible (refine Below.alloc ?_ (by first | omega | (simp; done) | (simp; omega)) _) | with_reducible refine Below.drew ?_ | with_reducible refine below_drewN ?_ _ | with_reducible (refine Below.trans ?_ (Below.mono hb4 (by first | omega | (simp; done) | (simp; omega)))) | with_reducible (refine Below.trans ?_ (Below.mono hb3 (by first | omega | (simp; done) | (simp; omega)))) | with_reducible (refine Below.trans ?_ (Below.mono hb2 (by first | omega | (simp; done) | (simp; omega)))) | with_reducible (refine Below.trans ?_ (Below.mono hb1 (by first | omega | (simp; done) | (simp; omega))))))⟩
end Go.Proofs.Ytpbafmdebflbpaa
