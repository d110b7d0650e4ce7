/- Values as words: words.Pack, Unpack and the references': what each answers. The laws WordsHeads and WordsPacks: the walks. arena: values as words: the program's (a closure of Lay) and the reference's. -/
import Derived.Test.YtpbafmdebflbpaaMg2
namespace Go.Proofs.Ytpbafmdebflbpaa
open Go.RowKit

def packN (n : Int) : Int := (2 * n) % 18446744073709551616 + 1
def unN (n : Int) : Int := if 9223372036854775808 ≤ n then (n - 18446744073709551616) / 2 else n / 2

theorem packP_eq (n : Int) : bits BinOp.or IntKind.u64 (IntKind.u64.wrap (IntKind.u64.wrap n * 2)) 1 = packN n := by
  simp only [IntKind.wrap_u64]
  have h1 : 0 ≤ n % 18446744073709551616 * 2 % 18446744073709551616 := by omega
  rw [u64_or _ _ h1 (by omega) (by omega) (by omega), show (1 : Int).toNat = 1 from rfl, nat_join 1 _ _ (by omega) (by omega)]
  unfold packN
  omega
theorem packR_eq (n : Int) : IntKind.u64.wrap (IntKind.u64.wrap (IntKind.u64.wrap n + IntKind.u64.wrap n) + 1) = packN n := by
  simp only [IntKind.wrap_u64]
  unfold packN
  omega
theorem and1 (n : Int) (h1 : 0 ≤ n) (h2 : n ≤ 18446744073709551615) : bits BinOp.and IntKind.u64 n 1 = n % 2 := by
  rw [u64_and _ _ (by omega) (by omega) (by omega) (by omega), show (1 : Int).toNat = 1 from rfl, nat_mask1]; omega

set_option maxHeartbeats 400000 in
theorem packP_ref (w : World) (n : Int) (h1 : 0 ≤ n) (h2 : n < 256) :
    Calls Try.prog 18 #[.agg #[.bool true, .int .i64 n]] w fun e w' => e = .returned (.tuple #[.int .u64 (2 * n), .int .i64 0]) ∧ Below w.heap.size w w' := by
  have e1 : n * 2 = 2 * n := by omega
  go_enter Try.func18, Try.ntmps18
  go_wp2
  go_ret2
  exact ⟨rfl, (by repeat (first | with_reducible exact Below.refl _ _ | with_reducible (refine Below.setCell ?_ (by first | omega | (simp; done) | (simp; omega)) _) | with_reducible (refine Below.alloc ?_ (by first | omega | (simp; done) | (simp; omega)) _) | with_reducible refine Below.drew ?_ | with_reducible refine below_drewN ?_ _))⟩

set_option maxHeartbeats 400000 in
theorem packP_refbad (w : World) (n : Int) (h1 : ¬ (0 ≤ n ∧ n < 256)) :
    Calls Try.prog 18 #[.agg #[.bool true, .int .i64 n]] w fun e w' => e = .returned (.tuple #[.int .u64 0, .int .i64 2]) ∧ Below w.heap.size w w' := by
  rcases (show n < 0 ∨ (¬ n < 0 ∧ 256 ≤ n) by omega) with h2 | ⟨h2, h3⟩
  all_goals
    clear h1
    go_enter Try.func18, Try.ntmps18
    go_wp2
    go_ret2
    exact ⟨rfl, (by repeat (first | with_reducible exact Below.refl _ _ | with_reducible (refine Below.setCell ?_ (by first | omega | (simp; done) | (simp; omega)) _) | with_reducible (refine Below.alloc ?_ (by first | omega | (simp; done) | (simp; omega)) _) | with_reducible refine Below.drew ?_ | with_reducible refine below_drewN ?_ _))⟩

set_option maxHeartbeats 400000 in
theorem packP_num (w : World) (n : Int) (h1 : -4611686018427387904 ≤ n) (h2 : n ≤ 4611686018427387903) :
    Calls Try.prog 18 #[.agg #[.bool false, .int .i64 n]] w fun e w' => e = .returned (.tuple #[.int .u64 (packN n), .int .i64 0]) ∧ Below w.heap.size w w' := by
  have e1 := packP_eq n
  go_enter Try.func18, Try.ntmps18
  go_wp2
  go_ret2
  exact ⟨rfl, (by repeat (first | with_reducible exact Below.refl _ _ | with_reducible (refine Below.setCell ?_ (by first | omega | (simp; done) | (simp; omega)) _) | with_reducible (refine Below.alloc ?_ (by first | omega | (simp; done) | (simp; omega)) _) | with_reducible refine Below.drew ?_ | with_reducible refine below_drewN ?_ _))⟩

set_option maxHeartbeats 400000 in
theorem packP_numbad (w : World) (n : Int) (h1 : ¬ (-4611686018427387904 ≤ n ∧ n ≤ 4611686018427387903)) :
    Calls Try.prog 18 #[.agg #[.bool false, .int .i64 n]] w fun e w' => e = .returned (.tuple #[.int .u64 0, .int .i64 3]) ∧ Below w.heap.size w w' := by
  rcases (show n < -4611686018427387904 ∨ (¬ n < -4611686018427387904 ∧ 4611686018427387903 < n) by omega) with h2 | ⟨h2, h3⟩
  all_goals
    clear h1
    go_enter Try.func18, Try.ntmps18
    go_wp2
    go_ret2
    exact ⟨rfl, (by repeat (first | with_reducible exact Below.refl _ _ | with_reducible (refine Below.setCell ?_ (by first | omega | (simp; done) | (simp; omega)) _) | with_reducible (refine Below.alloc ?_ (by first | omega | (simp; done) | (simp; omega)) _) | with_reducible refine Below.drew ?_ | with_reducible refine below_drewN ?_ _))⟩

set_option maxHeartbeats 400000 in
theorem packR_ref (w : World) (n : Int) (h1 : 0 ≤ n) (h2 : n < 256) :
    Calls Try.prog 19 #[.agg #[.bool true, .int .i64 n]] w fun e w' => e = .returned (.tuple #[.int .u64 (2 * n), .int .i64 0]) ∧ Below w.heap.size w w' := by
  have e1 : n + n = 2 * n := by omega
  go_enter Try.func19, Try.ntmps19
  go_wp2
  go_ret2
  exact ⟨rfl, (by repeat (first | with_reducible exact Below.refl _ _ | with_reducible (refine Below.setCell ?_ (by first | omega | (simp; done) | (simp; omega)) _) | with_reducible (refine Below.alloc ?_ (by first | omega | (simp; done) | (simp; omega)) _) | with_reducible refine Below.drew ?_ | with_reducible refine below_drewN ?_ _))⟩

set_option maxHeartbeats 400000 in
theorem packR_refbad (w : World) (n : Int) (h1 : ¬ (0 ≤ n ∧ n < 256)) :
    Calls Try.prog 19 #[.agg #[.bool true, .int .i64 n]] w fun e w' => e = .returned (.tuple #[.int .u64 0, .int .i64 2]) ∧ Below w.heap.size w w' := by
  rcases (show n < 0 ∨ (¬ n < 0 ∧ 256 ≤ n) by omega) with h2 | ⟨h2, h3⟩
  all_goals
    clear h1
    go_enter Try.func19, Try.ntmps19
    go_wp2
    go_ret2
    exact ⟨rfl, (by repeat (first | with_reducible exact Below.refl _ _ | with_reducible (refine Below.setCell ?_ (by first | omega | (simp; done) | (simp; omega)) _) | with_reducible (refine Below.alloc ?_ (by first | omega | (simp; done) | (simp; omega)) _) | with_reducible refine Below.drew ?_ | with_reducible refine below_drewN ?_ _))⟩

set_option maxHeartbeats 400000 in
theorem packR_num (w : World) (n : Int) (h1 : -4611686018427387904 ≤ n) (h2 : n ≤ 4611686018427387903) :
    Calls Try.prog 19 #[.agg #[.bool false, .int .i64 n]] w fun e w' => e = .returned (.tuple #[.int .u64 (packN n), .int .i64 0]) ∧ Below w.heap.size w w' := by
  have e1 := packR_eq n
  go_enter Try.func19, Try.ntmps19
  go_wp2
  go_ret2
  exact ⟨rfl, (by repeat (first | with_reducible exact Below.refl _ _ | with_reducible (refine Below.setCell ?_ (by first | omega | (simp; done) | (simp; omega)) _) | with_reducible (refine Below.alloc ?_ (by first | omega | (simp; done) | (simp; omega)) _) | with_reducible refine Below.drew ?_ | with_reducible refine below_drewN ?_ _))⟩

set_option maxHeartbeats 400000 in
theorem packR_numbad (w : World) (n : Int) (h1 : ¬ (-4611686018427387904 ≤ n ∧ n ≤ 4611686018427387903)) :
    Calls Try.prog 19 #[.agg #[.bool false, .int .i64 n]] w fun e w' => e = .returned (.tuple #[.int .u64 0, .int .i64 3]) ∧ Below w.heap.size w w' := by
  rcases (show n < -4611686018427387904 ∨ (¬ n < -4611686018427387904 ∧ 4611686018427387903 < n) by omega) with h2 | ⟨h2, h3⟩
  all_goals
    clear h1
    go_enter Try.func19, Try.ntmps19
    go_wp2
    go_ret2
    exact ⟨rfl, (by repeat (first | with_reducible exact Below.refl _ _ | with_reducible (refine Below.setCell ?_ (by first | omega | (simp; done) | (simp; omega)) _) | with_reducible (refine Below.alloc ?_ (by first | omega | (simp; done) | (simp; omega)) _) | with_reducible refine Below.drew ?_ | with_reducible refine below_drewN ?_ _))⟩

set_option maxHeartbeats 400000 in
theorem unpackP_num (w : World) (n : Int) (h1 : 0 ≤ n) (h2 : n ≤ 18446744073709551615) (h3 : n % 2 = 1) :
    Calls Try.prog 20 #[.int .u64 n] w fun e w' => e = .returned (.tuple #[.agg #[.bool false, .int .i64 (unN n)], .int .i64 0]) ∧ Below w.heap.size w w' := by
  have e0 := and1 n h1 h2
  rw [h3] at e0
  clear h3
  have e1 : wrap64 n / 2 = unN n := by
    unfold unN; split
    · rw [show wrap64 n = n - 18446744073709551616 from by unfold wrap64; omega]
    · rw [show wrap64 n = n from by unfold wrap64; omega]
  clear h1 h2
  go_enter Try.func20, Try.ntmps20
  go_wp2
  refine bodyPost_ret (v := .tuple #[.agg #[.bool false, .int .i64 (unN n)], .int .i64 0]) (by simp [results, Try.results20, go_sem]) rfl ⟨rfl, (by repeat (first | with_reducible exact Below.refl _ _ | with_reducible (refine Below.setCell ?_ (by first | omega | (simp; done) | (simp; omega)) _) | with_reducible (refine Below.alloc ?_ (by first | omega | (simp; done) | (simp; omega)) _) | with_reducible refine Below.drew ?_ | with_reducible refine below_drewN ?_ _))⟩

set_option maxHeartbeats 400000 in
theorem unpackP_ref (w : World) (n : Int) (h1 : 0 ≤ n) (h2 : n ≤ 18446744073709551615) (h4 : n < 512) (h3 : n % 2 = 0) :
    Calls Try.prog 20 #[.int .u64 n] w fun e w' => e = .returned (.tuple #[.agg #[.bool true, .int .i64 (n / 2)], .int .i64 0]) ∧ Below w.heap.size w w' := by
  have e0 := and1 n h1 h2
  rw [h3] at e0
  clear h3
  go_enter Try.func20, Try.ntmps20
  go_wp2
  refine bodyPost_ret (v := .tuple #[.agg #[.bool true, .int .i64 (n / 2)], .int .i64 0]) (by simp [results, Try.results20, go_sem]) rfl ⟨rfl, (by repeat (first | with_reducible exact Below.refl _ _ | with_reducible (refine Below.setCell ?_ (by first | omega | (simp; done) | (simp; omega)) _) | with_reducible (refine Below.alloc ?_ (by first | omega | (simp; done) | (simp; omega)) _) | with_reducible refine Below.drew ?_ | with_reducible refine below_drewN ?_ _))⟩

set_option maxHeartbeats 400000 in
theorem unpackP_bad (w : World) (n : Int) (h1 : 0 ≤ n) (h2 : n ≤ 18446744073709551615) (h4 : ¬ n < 512) (h3 : n % 2 = 0) :
    Calls Try.prog 20 #[.int .u64 n] w fun e w' => e = .returned (.tuple #[.agg #[.bool false, .int .i64 0], .int .i64 2]) ∧ Below w.heap.size w w' := by
  have e0 := and1 n h1 h2
  rw [h3] at e0
  clear h3
  go_enter Try.func20, Try.ntmps20
  go_wp2
  refine bodyPost_ret (v := .tuple #[.agg #[.bool false, .int .i64 0], .int .i64 2]) (by simp [results, Try.results20, go_sem]) rfl ⟨rfl, (by repeat (first | with_reducible exact Below.refl _ _ | with_reducible (refine Below.setCell ?_ (by first | omega | (simp; done) | (simp; omega)) _) | with_reducible (refine Below.alloc ?_ (by first | omega | (simp; done) | (simp; omega)) _) | with_reducible refine Below.drew ?_ | with_reducible refine below_drewN ?_ _))⟩

set_option maxHeartbeats 400000 in
theorem unpackR_num (w : World) (n : Int) (h1 : 0 ≤ n) (h2 : n ≤ 18446744073709551615) (h3 : n % 2 = 1) :
    Calls Try.prog 21 #[.int .u64 n] w fun e w' => e = .returned (.tuple #[.agg #[.bool false, .int .i64 (unN n)], .int .i64 0]) ∧ Below w.heap.size w w' := by
  have e0 : (n % 2 == 0) = false := by simp [h3]
  by_cases hb : 4611686018427387903 < n / 2
  · have e1 : n / 2 - 4611686018427387904 - 4611686018427387904 = unN n := by
      unfold unN; rw [if_pos (by omega)]; omega
    go_enter Try.func21, Try.ntmps21
    go_wp2
    refine bodyPost_ret (v := .tuple #[.agg #[.bool false, .int .i64 (unN n)], .int .i64 0]) (by simp [results, Try.results21, go_sem]) rfl ⟨rfl, (by repeat (first | with_reducible exact Below.refl _ _ | with_reducible (refine Below.setCell ?_ (by first | omega | (simp; done) | (simp; omega)) _) | with_reducible (refine Below.alloc ?_ (by first | omega | (simp; done) | (simp; omega)) _) | with_reducible refine Below.drew ?_ | with_reducible refine below_drewN ?_ _))⟩
  · rw [show unN n = n / 2 from by unfold unN; rw [if_neg (by omega)]]
    go_enter Try.func21, Try.ntmps21
    go_wp2
    refine bodyPost_ret (v := .tuple #[.agg #[.bool false, .int .i64 (n / 2)], .int .i64 0]) (by simp [results, Try.results21, go_sem]) rfl ⟨rfl, (by repeat (first | with_reducible exact Below.refl _ _ | with_reducible (refine Below.setCell ?_ (by first | omega | (simp; done) | (simp; omega)) _) | with_reducible (refine Below.alloc ?_ (by first | omega | (simp; done) | (simp; omega)) _) | with_reducible refine Below.drew ?_ | with_reducible refine below_drewN ?_ _))⟩

set_option maxHeartbeats 400000 in
theorem unpackR_ref (w : World) (n : Int) (h1 : 0 ≤ n) (h2 : n ≤ 18446744073709551615) (h4 : n < 512) (h3 : n % 2 = 0) :
    Calls Try.prog 21 #[.int .u64 n] w fun e w' => e = .returned (.tuple #[.agg #[.bool true, .int .i64 (n / 2)], .int .i64 0]) ∧ Below w.heap.size w w' := by
  have e0 : (n % 2 == 0) = true := by simp [h3]
  go_enter Try.func21, Try.ntmps21
  go_wp2
  refine bodyPost_ret (v := .tuple #[.agg #[.bool true, .int .i64 (n / 2)], .int .i64 0]) (by simp [results, Try.results21, go_sem]) rfl ⟨rfl, (by repeat (first | with_reducible exact Below.refl _ _ | with_reducible (refine Below.setCell ?_ (by first | omega | (simp; done) | (simp; omega)) _) | with_reducible (refine Below.alloc ?_ (by first | omega | (simp; done) | (simp; omega)) _) | with_reducible refine Below.drew ?_ | with_reducible refine below_drewN ?_ _))⟩

set_option maxHeartbeats 400000 in
theorem unpackR_bad (w : World) (n : Int) (h1 : 0 ≤ n) (h2 : n ≤ 18446744073709551615) (h4 : ¬ n < 512) (h3 : n % 2 = 0) :
    Calls Try.prog 21 #[.int .u64 n] w fun e w' => e = .returned (.tuple #[.agg #[.bool false, .int .i64 0], .int .i64 2]) ∧ Below w.heap.size w w' := by
  have e0 : (n % 2 == 0) = true := by simp [h3]
  go_enter Try.func21, Try.ntmps21
  go_wp2
  refine bodyPost_ret (v := .tuple #[.agg #[.bool false, .int .i64 0], .int .i64 2]) (by simp [results, Try.results21, go_sem]) rfl ⟨rfl, (by repeat (first | with_reducible exact Below.refl _ _ | with_reducible (refine Below.setCell ?_ (by first | omega | (simp; done) | (simp; omega)) _) | with_reducible (refine Below.alloc ?_ (by first | omega | (simp; done) | (simp; omega)) _) | with_reducible refine Below.drew ?_ | with_reducible refine below_drewN ?_ _))⟩

end Go.Proofs.Ytpbafmdebflbpaa

namespace Go.Proofs.Ytpbafmdebflbpaa
open Go.RowKit

set_option maxHeartbeats 800000 in
theorem wordsHeads_walk (w : World) (len age n : Int) (mark : Bool) (h1 : 0 ≤ n) (h2 : n ≤ 18446744073709551615) :
    Calls Try.prog 3 #[.agg #[.int .i64 len, .bool mark, .int .i64 age], .int .u64 n] w fun e w' => e = .returned (.bool true) ∧ Below w.heap.size w w' := by
  by_cases hh : headOK len age
  · by_cases hu : unheadOK n
    · go_enter Try.func3, Try.ntmps3
      go_wp2_with fail
      refine (head14_ok _ len age mark hh.1 hh.2.1 hh.2.2.1 hh.2.2.2).mono ?_
      rintro e w1 ⟨rfl, hb1⟩
      obtain ⟨r1, r2, r3⟩ := ((Blk.new w 23 _).below_ hb1).rules
      have hz := hb1.size
      simp at hz
      go_wp2_with fail
      refine (head15_ok _ len age mark hh.1 hh.2.1 hh.2.2.1 hh.2.2.2).mono ?_
      rintro e w2 ⟨rfl, hb2⟩
      go_wp2_with fail
      refine (unheadP_ok _ n h1 h2 hu).mono ?_
      rintro e w3 ⟨rfl, hb3⟩
      go_wp2_with fail
      refine (unheadR_ok _ n h1 h2 hu).mono ?_
      rintro e w4 ⟨rfl, hb4⟩
      obtain ⟨q1, q2, q3⟩ := ((Blk.new w3 23 _).below_ hb4).rules
      have hz2 := hb2.size
      have hz3 := hb3.size
      have hz4 := hb4.size
      simp at hz4
      clear r1 r2 r3
      go_wp2
      go_ret
      exact ⟨rfl, (by repeat (first | with_reducible exact Below.refl _ _ | with_reducible (refine Below.setCell ?_ (by first | omega | (simp; done) | (simp; omega)) _) | with_reducible (refine Below.alloc ?_ (by first | omega | (simp; done) | (simp; omega)) _) | with_reducible refine Below.drew ?_ | with_reducible refine below_drewN ?_ _ | with_reducible (refine Below.trans ?_ (Below.mono hb4 (by first | omega | (simp; done) | (simp; omega)))) | with_reducible (refine Below.trans ?_ (Below.mono hb3 (by first | omega | (simp; done) | (simp; omega)))) | with_reducible (refine Below.trans ?_ (Below.mono hb2 (by first | omega | (simp; done) | (simp; omega)))) | with_reducible (refine Below.trans ?_ (Below.mono hb1 (by first | omega | (simp; done) | (simp; omega))))))⟩
    · go_enter Try.func3, Try.ntmps3
      go_wp2_with fail
      refine (head14_ok _ len age mark hh.1 hh.2.1 hh.2.2.1 hh.2.2.2).mono ?_
      rintro e w1 ⟨rfl, hb1⟩
      obtain ⟨r1, r2, r3⟩ := ((Blk.new w 23 _).below_ hb1).rules
      have hz := hb1.size
      simp at hz
      go_wp2_with fail
      refine (head15_ok _ len age mark hh.1 hh.2.1 hh.2.2.1 hh.2.2.2).mono ?_
      rintro e w2 ⟨rfl, hb2⟩
      go_wp2_with fail
      refine (unheadP_bad _ n h1 h2 hu).mono ?_
      rintro e w3 ⟨rfl, hb3⟩
      go_wp2_with fail
      refine (unheadR_bad _ n h1 h2 hu).mono ?_
      rintro e w4 ⟨rfl, hb4⟩
      obtain ⟨q1, q2, q3⟩ := ((Blk.new w3 23 _).below_ hb4).rules
      have hz2 := hb2.size
      have hz3 := hb3.size
      have hz4 := hb4.size
      simp at hz4
      clear r1 r2 r3
      go_wp2
      go_ret
      exact ⟨rfl, (by repeat (first | with_reducible exact Below.refl _ _ | with_reducible (refine Below.setCell ?_ (by first | omega | (simp; done) | (simp; omega)) _) | with_reducible (refine Below.alloc ?_ (by first | omega | (simp; done) | (simp; omega)) _) | with_reducible refine Below.drew ?_ | with_reducible refine below_drewN ?_ _ | with_reducible (refine Below.trans ?_ (Below.mono hb4 (by first | omega | (simp; done) | (simp; omega)))) | with_reducible (refine Below.trans ?_ (Below.mono hb3 (by first | omega | (simp; done) | (simp; omega)))) | with_reducible (refine Below.trans ?_ (Below.mono hb2 (by first | omega | (simp; done) | (simp; omega)))) | with_reducible (refine Below.trans ?_ (Below.mono hb1 (by first | omega | (simp; done) | (simp; omega))))))⟩
  · by_cases hu : unheadOK n
    · go_enter Try.func3, Try.ntmps3
      go_wp2_with fail
      refine (head14_bad _ len age mark hh).mono ?_
      rintro e w1 ⟨rfl, hb1⟩
      obtain ⟨r1, r2, r3⟩ := ((Blk.new w 23 _).below_ hb1).rules
      have hz := hb1.size
      simp at hz
      go_wp2_with fail
      refine (head15_bad _ len age mark hh).mono ?_
      rintro e w2 ⟨rfl, hb2⟩
      go_wp2_with fail
      refine (unheadP_ok _ n h1 h2 hu).mono ?_
      rintro e w3 ⟨rfl, hb3⟩
      go_wp2_with fail
      refine (unheadR_ok _ n h1 h2 hu).mono ?_
      rintro e w4 ⟨rfl, hb4⟩
      obtain ⟨q1, q2, q3⟩ := ((Blk.new w3 23 _).below_ hb4).rules
      have hz2 := hb2.size
      have hz3 := hb3.size
      have hz4 := hb4.size
      simp at hz4
      clear r1 r2 r3
      go_wp2
      go_ret
      exact ⟨rfl, (by repeat (first | with_reducible exact Below.refl _ _ | with_reducible (refine Below.setCell ?_ (by first | omega | (simp; done) | (simp; omega)) _) | with_reducible (refine Below.alloc ?_ (by first | omega | (simp; done) | (simp; omega)) _) | with_reducible refine Below.drew ?_ | with_reducible refine below_drewN ?_ _ | with_reducible (refine Below.trans ?_ (Below.mono hb4 (by first | omega | (simp; done) | (simp; omega)))) | with_reducible (refine Below.trans ?_ (Below.mono hb3 (by first | omega | (simp; done) | (simp; omega)))) | with_reducible (refine Below.trans ?_ (Below.mono hb2 (by first | omega | (simp; done) | (simp; omega)))) | with_reducible (refine Below.trans ?_ (Below.mono hb1 (by first | omega | (simp; done) | (simp; omega))))))⟩
    · go_enter Try.func3, Try.ntmps3
      go_wp2_with fail
      refine (head14_bad _ len age mark hh).mono ?_
      rintro e w1 ⟨rfl, hb1⟩
      obtain ⟨r1, r2, r3⟩ := ((Blk.new w 23 _).below_ hb1).rules
      have hz := hb1.size
      simp at hz
      go_wp2_with fail
      refine (head15_bad _ len age mark hh).mono ?_
      rintro e w2 ⟨rfl, hb2⟩
      go_wp2_with fail
      refine (unheadP_bad _ n h1 h2 hu).mono ?_
      rintro e w3 ⟨rfl, hb3⟩
      go_wp2_with fail
      refine (unheadR_bad _ n h1 h2 hu).mono ?_
      rintro e w4 ⟨rfl, hb4⟩
      obtain ⟨q1, q2, q3⟩ := ((Blk.new w3 23 _).below_ hb4).rules
      have hz2 := hb2.size
      have hz3 := hb3.size
      have hz4 := hb4.size
      simp at hz4
      clear r1 r2 r3
      go_wp2
      go_ret
      exact ⟨rfl, (by repeat (first | with_reducible exact Below.refl _ _ | with_reducible (refine Below.setCell ?_ (by first | omega | (simp; done) | (simp; omega)) _) | with_reducible (refine Below.alloc ?_ (by first | omega | (simp; done) | (simp; omega)) _) | with_reducible refine Below.drew ?_ | with_reducible refine below_drewN ?_ _ | with_reducible (refine Below.trans ?_ (Below.mono hb4 (by first | omega | (simp; done) | (simp; omega)))) | with_reducible (refine Below.trans ?_ (Below.mono hb3 (by first | omega | (simp; done) | (simp; omega)))) | with_reducible (refine Below.trans ?_ (Below.mono hb2 (by first | omega | (simp; done) | (simp; omega)))) | with_reducible (refine Below.trans ?_ (Below.mono hb1 (by first | omega | (simp; done) | (simp; omega))))))⟩

/-! ### One contract each, whatever the argument. -/
def packA (r : Bool) (n : Int) : Int := if r then (if 0 ≤ n ∧ n < 256 then 2 * n else 0) else (if -4611686018427387904 ≤ n ∧ n ≤ 4611686018427387903 then packN n else 0)
def packE (r : Bool) (n : Int) : Int := if r then (if 0 ≤ n ∧ n < 256 then 0 else 2) else (if -4611686018427387904 ≤ n ∧ n ≤ 4611686018427387903 then 0 else 3)
def unR (n : Int) : Bool := decide (n % 2 = 0 ∧ n < 512)
def unA (n : Int) : Int := if n % 2 = 1 then unN n else if n < 512 then n / 2 else 0
def unE (n : Int) : Int := if n % 2 = 1 then 0 else if n < 512 then 0 else 2

theorem packP_any (w : World) (r : Bool) (n : Int) :
    Calls Try.prog 18 #[.agg #[.bool r, .int .i64 n]] w fun e w' => e = .returned (.tuple #[.int .u64 (packA r n), .int .i64 (packE r n)]) ∧ Below w.heap.size w w' := by
  unfold packA packE
  cases r
  · simp only [Bool.false_eq_true, if_false]
    by_cases h : -4611686018427387904 ≤ n ∧ n ≤ 4611686018427387903
    · rw [if_pos h, if_pos h]; exact packP_num w n h.1 h.2
    · rw [if_neg h, if_neg h]; exact packP_numbad w n h
  · simp only [if_true]
    by_cases h : 0 ≤ n ∧ n < 256
    · rw [if_pos h, if_pos h]; exact packP_ref w n h.1 h.2
    · rw [if_neg h, if_neg h]; exact packP_refbad w n h

theorem packR_any (w : World) (r : Bool) (n : Int) :
    Calls Try.prog 19 #[.agg #[.bool r, .int .i64 n]] w fun e w' => e = .returned (.tuple #[.int .u64 (packA r n), .int .i64 (packE r n)]) ∧ Below w.heap.size w w' := by
  unfold packA packE
  cases r
  · simp only [Bool.false_eq_true, if_false]
    by_cases h : -4611686018427387904 ≤ n ∧ n ≤ 4611686018427387903
    · rw [if_pos h, if_pos h]; exact packR_num w n h.1 h.2
    · rw [if_neg h, if_neg h]; exact packR_numbad w n h
  · simp only [if_true]
    by_cases h : 0 ≤ n ∧ n < 256
    · rw [if_pos h, if_pos h]; exact packR_ref w n h.1 h.2
    · rw [if_neg h, if_neg h]; exact packR_refbad w n h

theorem unpackP_any (w : World) (n : Int) (h1 : 0 ≤ n) (h2 : n ≤ 18446744073709551615) :
    Calls Try.prog 20 #[.int .u64 n] w fun e w' => e = .returned (.tuple #[.agg #[.bool (unR n), .int .i64 (unA n)], .int .i64 (unE n)]) ∧ Below w.heap.size w w' := by
  unfold unR unA unE
  by_cases h : n % 2 = 1
  · rw [if_pos h, if_pos h, show decide (n % 2 = 0 ∧ n < 512) = false from by simp; omega]; exact unpackP_num w n h1 h2 h
  · rw [if_neg h, if_neg h]
    by_cases h3 : n < 512
    · rw [if_pos h3, if_pos h3, show decide (n % 2 = 0 ∧ n < 512) = true from by simp; omega]; exact unpackP_ref w n h1 h2 h3 (by omega)
    · rw [if_neg h3, if_neg h3, show decide (n % 2 = 0 ∧ n < 512) = false from by simp; omega]; exact unpackP_bad w n h1 h2 h3 (by omega)

theorem unpackR_any (w : World) (n : Int) (h1 : 0 ≤ n) (h2 : n ≤ 18446744073709551615) :
    Calls Try.prog 21 #[.int .u64 n] w fun e w' => e = .returned (.tuple #[.agg #[.bool (unR n), .int .i64 (unA n)], .int .i64 (unE n)]) ∧ Below w.heap.size w w' := by
  unfold unR unA unE
  by_cases h : n % 2 = 1
  · rw [if_pos h, if_pos h, show decide (n % 2 = 0 ∧ n < 512) = false from by simp; omega]; exact unpackR_num w n h1 h2 h
  · rw [if_neg h, if_neg h]
    by_cases h3 : n < 512
    · rw [if_pos h3, if_pos h3, show decide (n % 2 = 0 ∧ n < 512) = true from by simp; omega]; exact unpackR_ref w n h1 h2 h3 (by omega)
    · rw [if_neg h3, if_neg h3, show decide (n % 2 = 0 ∧ n < 512) = false from by simp; omega]; exact unpackR_bad w n h1 h2 h3 (by omega)

set_option maxHeartbeats 800000 in
theorem wordsPacks_walk (w : World) (v n : Int) (r : Bool) (h1 : 0 ≤ n) (h2 : n ≤ 18446744073709551615) :
    Calls Try.prog 4 #[.agg #[.bool r, .int .i64 v], .int .u64 n] w fun e w' => e = .returned (.bool true) ∧ Below w.heap.size w w' := by
  go_enter Try.func4, Try.ntmps4
  go_wp2_with fail
  refine (packP_any _ r v).mono ?_
  rintro e w1 ⟨rfl, hb1⟩
  obtain ⟨r1, r2, r3⟩ := ((Blk.new w 32 _).below_ hb1).rules
  have hz := hb1.size
  simp at hz
  go_wp2_with fail
  refine (packR_any _ r v).mono ?_
  rintro e w2 ⟨rfl, hb2⟩
  go_wp2_with fail
  refine (unpackP_any _ n h1 h2).mono ?_
  rintro e w3 ⟨rfl, hb3⟩
  go_wp2_with fail
  refine (unpackR_any _ n h1 h2).mono ?_
  rintro e w4 ⟨rfl, hb4⟩
  obtain ⟨q1, q2, q3⟩ := ((Blk.new w3 32 _).below_ hb4).rules
  have hz2 := hb2.size
  have hz3 := hb3.size
  have hz4 := hb4.size
  simp at hz4
  clear r1 r2 r3
  go_wp2
  go_ret
  exact ⟨rfl, (by repeat (first | with_reducible exact Below.refl _ _ | with_reducible (refine Below.setCell ?_ (by first | omega | (simp; done) | (simp; omega)) _) | with_reducible (refine Below.alloc ?_ (by first | omega | (simp; done) | (simp; omega)) _) | with_reducible refine Below.drew ?_ | with_reducible refine below_drewN ?_ _ | with_reducible (refine Below.trans ?_ (Below.mono hb4 (by first | omega | (simp; done) | (simp; omega)))) | with_reducible (refine Below.trans ?_ (Below.mono hb3 (by first | omega | (simp; done) | (simp; omega)))) | with_reducible (refine Below.trans ?_ (Below.mono hb2 (by first | omega | (simp; done) | (simp; omega)))) | with_reducible (refine Below.trans ?_ (Below.mono hb1 (by first | omega | (simp; done) | (simp; omega))))))⟩
end Go.Proofs.Ytpbafmdebflbpaa

namespace Go.Proofs.Ytpbafmdebflbpaa
open Go.RowKit

def u64s (l : List Int) : List Value := l.map (Value.int .u64)
theorem u64s_snoc (l : List Int) (x : Int) : u64s (l ++ [x]) = u64s l ++ [.int .u64 x] := by simp [u64s]
/-- A value's word, by the places of objects. -/
def packV (at_ : List Int) (v : Val) : Int := packA v.1 (if v.1 = true then at_.getD v.2.toNat 0 else v.2)
theorem sWord : SliceT Try.prog 53 24 1 8 := SliceT.mk_ Try.underlying53 (z := .int .u64 0) (by kernel_rfl) rfl (by omega)
theorem u64s_row {F : Nat → Prop} {W w : World} {items : List Item} (h : Sep F W w items) (k : Nat) {A : Option Addr} {n c : Nat} {l : List Int} (hk : items[k]? = some (rowI 24 1 A n c (u64s l))) : l.length = n := by
  have := (h.rd_ k hk).1; simpa [u64s] using this

set_option maxRecDepth 100000 in
set_option maxHeartbeats 4000000 in
theorem packed_any (w : World) (A At : Option Addr) (n c nt ct : Nat) (l : List Val) (at_ : List Int) (hn : n ≤ 1000) (_hnt : nt ≤ 1000) (hl : Rd w (fun _ => True) 2 A n (vals l)) (ha : Rd w (fun _ => True) 1 At nt (ints at_)) (hv : ∀ v ∈ l, v.1 = true → 0 ≤ v.2 ∧ v.2 < nt) :
    Calls Try.prog 63 #[.slice A n c, .slice At nt ct] w fun e w' => ∃ A' c', e = .returned (.slice A' n c') ∧ Sep No w w' [rowI 24 1 A' n c' (u64s (l.map (packV at_)))] := by
  have HLL := hide (show l.length = n by have := hl.1; rw [vals_length] at this; omega)
  have HAL := hide (show at_.length = nt by have := ha.1; simpa using this)
  have HS0 := hide ((Sep.nil No w).nilRow 24 1)
  go_enter Try.func63, Try.ntmps63
  go_wp2_with fail
  go_loopw [5, 12] (fun s5 i wr => ∃ (k : Nat) (A' : Option Addr) (c' : Nat), k ≤ n ∧ i = .int .i64 k ∧ s5 = .slice A' k c' ∧ Sep No w wr [rowI 24 1 A' k c' (u64s ((l.take k).map (packV at_)))]) (fun _ i _ => n - (intOf i).toNat)
  case atStart => exact ⟨0, none, 0, by omega, rfl, rfl, HS0.out⟩
  case round =>
    clear HS0
    obtain ⟨k, A', c', hk, rfl, rfl, hS⟩ := hrel
    by_cases hlt : k < n
    · have hkl : k < l.length := by rw [HLL.out]; exact hlt
      obtain ⟨ad, hA, _, had, hc, hd⟩ := (hl.below hS.below_).atN hlt
      obtain ⟨v0, v1⟩ := vals_at l k hkl
      have e0 := hc _ v0
      have e1 := hd 0 _ v1
      have HT := hide (List.take_succ_eq_append_getElem hkl)
      have hvk := hv _ (List.getElem_mem hkl)
      obtain ⟨x, hx⟩ : ∃ x, l[k] = x := ⟨_, rfl⟩
      rw [hx] at e0 e1 HT hvk
      subst hA
      clear hc hd v0 v1 hx
      obtain ⟨b, m⟩ := x
      dsimp only at e0 e1 hvk
      have hbS := fun o => (hS.alloc o).below_
      cases b with
      | false =>
        clear hvk
        go_wp2_with fail
        refine (packR_any _ false m).mono ?_
        rintro e w3 ⟨rfl, hB3⟩
        have hS3 := (hS.alloc _).below hB3
        go_wp2_with (first
          | (at_builtin
             refine wpList_app1 (cs := #[.int .u64 (packA false m)]) rfl (.tmp 29) (.tmp 31) 53 rfl sWord hS3 0 (n := k) rfl rfl rfl (by simp) rfl rfl (by omega) ?_
             intro A4 c4 w4 hS4 hC4))
        go_roundw
        case rel => exact ⟨k + 1, A4, c4, by omega, by go_num, rfl, by rw [HT.out, List.map_append, List.map_cons, List.map_nil, u64s_snoc]; exact hS4⟩
        case measure => simp [intOf]; omega
      | true =>
        obtain ⟨hm0, hmn⟩ := hvk rfl
        obtain ⟨j, rfl⟩ := Int.eq_ofNat_of_zero_le hm0
        have hjn : j < nt := by omega
        have hjl : j < at_.length := by rw [HAL.out]; exact hjn
        obtain ⟨ad2, hA2, _, had2, hc2⟩ := (ha.below (hbS (.cells #[.bool true, .int .i64 j] 32))).at_ hjn
        have e2 := hc2 (.int .i64 at_[j]) (by simp [ints, List.getElem?_eq_getElem hjl])
        have HX := hide (show packV at_ (true, (j : Int)) = packA true at_[j] from by unfold packV; simp [List.getD_eq_getElem?_getD, List.getElem?_eq_getElem hjl])
        obtain ⟨y, hy⟩ : ∃ y, at_[j] = y := ⟨_, rfl⟩
        rw [hy] at e2 HX
        rw [hA2]
        have HA2 := hide hA2
        clear hc2 hy hm0 hmn hA2
        go_wp2_with fail
        refine (packR_any _ true y).mono ?_
        rintro e w3 ⟨rfl, hB3⟩
        have hS3 := (hS.alloc _).below hB3
        go_wp2_with (first
          | (at_builtin
             refine wpList_app1 (cs := #[.int .u64 (packA true y)]) rfl (.tmp 29) (.tmp 31) 53 rfl sWord hS3 0 (n := k) rfl rfl rfl (by simp) rfl rfl (by omega) ?_
             intro A4 c4 w4 hS4 hC4))
        go_roundw
        case rel => exact ⟨k + 1, A4, c4, by omega, by go_num, rfl, by rw [HT.out, List.map_append, List.map_cons, List.map_nil, HX.out, u64s_snoc]; exact hS4⟩
        case measure => simp [intOf]; omega
    · obtain rfl : k = n := by omega
      rw [show l.take k = l from List.take_of_length_le (by rw [HLL.out]; omega)] at hS
      go_wp2_with fail
      go_ret
      exact ⟨A', c', rfl, hS⟩
set_option maxRecDepth 100000 in
set_option maxHeartbeats 4000000 in
theorem pack_any (w : World) (D : Nat → Prop) (Aw A At : Option Addr) (nw cw n c nt ct b : Nat) (xs : List Int) (l : List Val) (at_ : List Int) (hn : n ≤ 1000) (_hnt : nt ≤ 1000) (hnw : nw ≤ 1000) (hw : (rowI 24 1 Aw nw cw (u64s xs)).P w) (hD : ∀ g, (rowI 24 1 Aw nw cw (u64s xs)).fp g → ¬ D g) (hb : Blk w b 108 #[.slice At nt ct]) (hbD : D b) (hl : Rd w D 2 A n (vals l)) (ha : Rd w D 1 At nt (ints at_)) (hv : ∀ v ∈ l, v.1 = true → 0 ≤ v.2 ∧ v.2 < nt) :
    Calls Try.prog 59 #[.slice Aw nw cw, .slice A n c, .pointer (some ⟨b, 0, none⟩)] w fun e w' => ∃ A' c', e = .returned (.slice A' (nw + n) c') ∧ Sep (rowI 24 1 Aw nw cw (u64s xs)).fp w w' [rowI 24 1 A' (nw + n) c' (u64s (xs ++ l.map (packV at_)))] := by
  have HLL := hide (show l.length = n by have := hl.1; rw [vals_length] at this; omega)
  have HAL := hide (show at_.length = nt by have := ha.1; simpa using this)
  obtain ⟨F, hF⟩ : ∃ F, (rowI 24 1 Aw nw cw (u64s xs)).fp = F := ⟨_, rfl⟩
  have HS0 := hide (Sep.start hw)
  rw [hF] at HS0 hD ⊢
  clear hF hw
  go_enter Try.func59, Try.ntmps59
  go_wp2_with fail
  go_loopw [0, 12] (fun s5 i wr => ∃ (k : Nat) (A' : Option Addr) (c' : Nat), k ≤ n ∧ i = .int .i64 k ∧ s5 = .slice A' (nw + k) c' ∧ Sep F w wr [rowI 24 1 A' (nw + k) c' (u64s (xs ++ (l.take k).map (packV at_)))]) (fun _ i _ => n - (intOf i).toNat)
  case atStart => exact ⟨0, Aw, cw, by omega, rfl, rfl, by simpa using HS0.out⟩
  case round =>
    clear HS0
    obtain ⟨k, A', c', hk, rfl, rfl, hS⟩ := hrel
    by_cases hlt : k < n
    · have hkl : k < l.length := by rw [HLL.out]; exact hlt
      obtain ⟨ad, hA, _, had, hc, hd⟩ := (hl.chg hS.bel hD).atN hlt
      obtain ⟨v0, v1⟩ := vals_at l k hkl
      have e0 := hc _ v0
      have e1 := hd 0 _ v1
      have HT := hide (List.take_succ_eq_append_getElem hkl)
      have hvk := hv _ (List.getElem_mem hkl)
      obtain ⟨x, hx⟩ : ∃ x, l[k] = x := ⟨_, rfl⟩
      rw [hx] at e0 e1 HT hvk
      subst hA
      clear hc hd v0 v1 hx
      obtain ⟨q, m⟩ := x
      dsimp only at e0 e1 hvk
      have hbS := fun o => (hS.alloc o).bel
      obtain ⟨b1, b2, b3⟩ := (hb.chg hS.bel (fun h => hD b h hbD)).rules
      cases q with
      | false =>
        clear hvk
        go_wp2_with fail
        refine (packP_any _ false m).mono ?_
        rintro e w3 ⟨rfl, hB3⟩
        have hS3 := (hS.alloc _).below hB3
        go_wp2_with (first
          | (at_builtin
             refine wpList_app1 (cs := #[.int .u64 (packA false m)]) rfl (.tmp 29) (.tmp 31) 53 rfl sWord hS3 0 (n := nw + k) rfl rfl rfl (by simp) rfl rfl (by omega) ?_
             intro A4 c4 w4 hS4 hC4))
        go_roundw
        case rel => exact ⟨k + 1, A4, c4, by omega, by go_num, rfl, by rw [HT.out, List.map_append, List.map_cons, List.map_nil, ← List.append_assoc, u64s_snoc]; exact hS4⟩
        case measure => simp [intOf]; omega
      | true =>
        obtain ⟨hm0, hmn⟩ := hvk rfl
        obtain ⟨j, rfl⟩ := Int.eq_ofNat_of_zero_le hm0
        have hjn : j < nt := by omega
        have hjl : j < at_.length := by rw [HAL.out]; exact hjn
        obtain ⟨ad2, hA2, _, had2, hc2⟩ := (ha.chg (hbS (.cells #[.bool true, .int .i64 j] 32)) hD).at_ hjn
        have e2 := hc2 (.int .i64 at_[j]) (by simp [ints, List.getElem?_eq_getElem hjl])
        have HX := hide (show packV at_ (true, (j : Int)) = packA true at_[j] from by unfold packV; simp [List.getD_eq_getElem?_getD, List.getElem?_eq_getElem hjl])
        obtain ⟨y, hy⟩ : ∃ y, at_[j] = y := ⟨_, rfl⟩
        rw [hy] at e2 HX
        subst hA2
        clear hc2 hy hm0 hmn
        go_wp2_with fail
        refine (packP_any _ true y).mono ?_
        rintro e w3 ⟨rfl, hB3⟩
        have hS3 := (hS.alloc _).below hB3
        go_wp2_with (first
          | (at_builtin
             refine wpList_app1 (cs := #[.int .u64 (packA true y)]) rfl (.tmp 29) (.tmp 31) 53 rfl sWord hS3 0 (n := nw + k) rfl rfl rfl (by simp) rfl rfl (by omega) ?_
             intro A4 c4 w4 hS4 hC4))
        go_roundw
        case rel => exact ⟨k + 1, A4, c4, by omega, by go_num, rfl, by rw [HT.out, List.map_append, List.map_cons, List.map_nil, HX.out, ← List.append_assoc, u64s_snoc]; exact hS4⟩
        case measure => simp [intOf]; omega
    · obtain rfl : k = n := by omega
      rw [show l.take k = l from List.take_of_length_le (by rw [HLL.out]; omega)] at hS
      go_wp2_with fail
      go_ret
      exact ⟨A', c', rfl, hS⟩
end Go.Proofs.Ytpbafmdebflbpaa
