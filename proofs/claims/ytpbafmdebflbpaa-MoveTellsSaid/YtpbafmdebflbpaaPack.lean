/- Values as words: words.Pack, Unpack and the references': what each answers. -/
import Derived.Test.YtpbafmdebflbpaaWords
namespace Go.Proofs.Ytpbafmdebflbpaa
open Go.RowKit

def packN (n : Int) : Int := (2 * n) % 18446744073709551616 + 1
def unN (n : Int) : Int := if 9223372036854775808 ≤ n then (n - 18446744073709551616) / 2 else n / 2

theorem packP_eq (n : Int) : bits BinOp.or IntKind.u64 (IntKind.u64.wrap (IntKind.u64.wrap n * 2)) 1 = packN n := by
  simp only [IntKind.wrap_u64]
  have h1 : 0 ≤ n % 18446744073709551616 * 2 % 18446744073709551616 := by omega
  rw [u64_or _ _ h1 (by omega) (by omega) (by omega), show (1 : Int).toNat = 1 from rfl, nat_join 1 _ _ (by omega) (by omega)]
  unfold packN
  omega
theorem packR_eq (n : Int) : IntKind.u64.wrap (IntKind.u64.wrap (IntKind.u64.wrap n + IntKind.u64.wrap n) + 1) = packN n := by
  simp only [IntKind.wrap_u64]
  unfold packN
  omega
theorem and1 (n : Int) (h1 : 0 ≤ n) (h2 : n ≤ 18446744073709551615) : bits BinOp.and IntKind.u64 n 1 = n % 2 := by
  rw [u64_and _ _ (by omega) (by omega) (by omega) (by omega), show (1 : Int).toNat = 1 from rfl, nat_mask1]; omega

set_option maxHeartbeats 400000 in
theorem packP_ref (w : World) (n : Int) (h1 : 0 ≤ n) (h2 : n < 256) :
    Calls Try.prog 18 #[.agg #[.bool true, .int .i64 n]] w fun e w' => e = .returned (.tuple #[.int .u64 (2 * n), .int .i64 0]) ∧ Below w.heap.size w w' := by
  have e1 : n * 2 = 2 * n := by omega
  go_enter Try.func18, Try.ntmps18
  go_wp2
  go_ret2
  exact ⟨rfl, (by repeat (first | with_reducible exact Below.refl _ _ | with_reducible (refine Below.setCell ?_ (by first | omega | (simp; done) | (simp; omega)) _) | with_reducible (refine Below.alloc ?_ (by first | omega | (simp; done) | (simp; omega)) _) | with_reducible refine Below.drew ?_ | with_reducible refine below_drewN ?_ _))⟩

set_option maxHeartbeats 400000 in
theorem packP_refbad (w : World) (n : Int) (h1 : ¬ (0 ≤ n ∧ n < 256)) :
    Calls Try.prog 18 #[.agg #[.bool true, .int .i64 n]] w fun e w' => e = .returned (.tuple #[.int .u64 0, .int .i64 2]) ∧ Below w.heap.size w w' := by
  rcases (show n < 0 ∨ (¬ n < 0 ∧ 256 ≤ n) by omega) with h2 | ⟨h2, h3⟩
  all_goals
    clear h1
    go_enter Try.func18, Try.ntmps18
    go_wp2
    go_ret2
    exact ⟨rfl, (by repeat (first | with_reducible exact Below.refl _ _ | with_reducible (refine Below.setCell ?_ (by first | omega | (simp; done) | (simp; omega)) _) | with_reducible (refine Below.alloc ?_ (by first | omega | (simp; done) | (simp; omega)) _) | with_reducible refine Below.drew ?_ | with_reducible refine below_drewN ?_ _))⟩

set_option maxHeartbeats 400000 in
theorem packP_num (w : World) (n : Int) (h1 : -4611686018427387904 ≤ n) (h2 : n ≤ 4611686018427387903) :
    Calls Try.prog 18 #[.agg #[.bool false, .int .i64 n]] w fun e w' => e = .returned (.tuple #[.int .u64 (packN n), .int .i64 0]) ∧ Below w.heap.size w w' := by
  have e1 := packP_eq n
  go_enter Try.func18, Try.ntmps18
  go_wp2
  go_ret2
  exact ⟨rfl, (by repeat (first | with_reducible exact Below.refl _ _ | with_reducible (refine Below.setCell ?_ (by first | omega | (simp; done) | (simp; omega)) _) | with_reducible (refine Below.alloc ?_ (by first | omega | (simp; done) | (simp; omega)) _) | with_reducible refine Below.drew ?_ | with_reducible refine below_drewN ?_ _))⟩

set_option maxHeartbeats 400000 in
theorem packP_numbad (w : World) (n : Int) (h1 : ¬ (-4611686018427387904 ≤ n ∧ n ≤ 4611686018427387903)) :
    Calls Try.prog 18 #[.agg #[.bool false, .int .i64 n]] w fun e w' => e = .returned (.tuple #[.int .u64 0, .int .i64 3]) ∧ Below w.heap.size w w' := by
  rcases (show n < -4611686018427387904 ∨ (¬ n < -4611686018427387904 ∧ 4611686018427387903 < n) by omega) with h2 | ⟨h2, h3⟩
  all_goals
    clear h1
    go_enter Try.func18, Try.ntmps18
    go_wp2
    go_ret2
    exact ⟨rfl, (by repeat (first | with_reducible exact Below.refl _ _ | with_reducible (refine Below.setCell ?_ (by first | omega | (simp; done) | (simp; omega)) _) | with_reducible (refine Below.alloc ?_ (by first | omega | (simp; done) | (simp; omega)) _) | with_reducible refine Below.drew ?_ | with_reducible refine below_drewN ?_ _))⟩

set_option maxHeartbeats 400000 in
theorem packR_ref (w : World) (n : Int) (h1 : 0 ≤ n) (h2 : n < 256) :
    Calls Try.prog 19 #[.agg #[.bool true, .int .i64 n]] w fun e w' => e = .returned (.tuple #[.int .u64 (2 * n), .int .i64 0]) ∧ Below w.heap.size w w' := by
  have e1 : n + n = 2 * n := by omega
  go_enter Try.func19, Try.ntmps19
  go_wp2
  go_ret2
  exact ⟨rfl, (by repeat (first | with_reducible exact Below.refl _ _ | with_reducible (refine Below.setCell ?_ (by first | omega | (simp; done) | (simp; omega)) _) | with_reducible (refine Below.alloc ?_ (by first | omega | (simp; done) | (simp; omega)) _) | with_reducible refine Below.drew ?_ | with_reducible refine below_drewN ?_ _))⟩

set_option maxHeartbeats 400000 in
theorem packR_refbad (w : World) (n : Int) (h1 : ¬ (0 ≤ n ∧ n < 256)) :
    Calls Try.prog 19 #[.agg #[.bool true, .int .i64 n]] w fun e w' => e = .returned (.tuple #[.int .u64 0, .int .i64 2]) ∧ Below w.heap.size w w' := by
  rcases (show n < 0 ∨ (¬ n < 0 ∧ 256 ≤ n) by omega) with h2 | ⟨h2, h3⟩
  all_goals
    clear h1
    go_enter Try.func19, Try.ntmps19
    go_wp2
    go_ret2
    exact ⟨rfl, (by repeat (first | with_reducible exact Below.refl _ _ | with_reducible (refine Below.setCell ?_ (by first | omega | (simp; done) | (simp; omega)) _) | with_reducible (refine Below.alloc ?_ (by first | omega | (simp; done) | (simp; omega)) _) | with_reducible refine Below.drew ?_ | with_reducible refine below_drewN ?_ _))⟩

set_option maxHeartbeats 400000 in
theorem packR_num (w : World) (n : Int) (h1 : -4611686018427387904 ≤ n) (h2 : n ≤ 4611686018427387903) :
    Calls Try.prog 19 #[.agg #[.bool false, .int .i64 n]] w fun e w' => e = .returned (.tuple #[.int .u64 (packN n), .int .i64 0]) ∧ Below w.heap.size w w' := by
  have e1 := packR_eq n
  go_enter Try.func19, Try.ntmps19
  go_wp2
  go_ret2
  exact ⟨rfl, (by repeat (first | with_reducible exact Below.refl _ _ | with_reducible (refine Below.setCell ?_ (by first | omega | (simp; done) | (simp; omega)) _) | with_reducible (refine Below.alloc ?_ (by first | omega | (simp; done) | (simp; omega)) _) | with_reducible refine Below.drew ?_ | with_reducible refine below_drewN ?_ _))⟩

set_option maxHeartbeats 400000 in
theorem packR_numbad (w : World) (n : Int) (h1 : ¬ (-4611686018427387904 ≤ n ∧ n ≤ 4611686018427387903)) :
    Calls Try.prog 19 #[.agg #[.bool false, .int .i64 n]] w fun e w' => e = .returned (.tuple #[.int .u64 0, .int .i64 3]) ∧ Below w.heap.size w w' := by
  rcases (show n < -4611686018427387904 ∨ (¬ n < -4611686018427387904 ∧ 4611686018427387903 < n) by omega) with h2 | ⟨h2, h3⟩
  all_goals
    clear h1
    go_enter Try.func19, Try.ntmps19
    go_wp2
    go_ret2
    exact ⟨rfl, (by repeat (first | with_reducible exact Below.refl _ _ | with_reducible (refine Below.setCell ?_ (by first | omega | (simp; done) | (simp; omega)) _) | with_reducible (refine Below.alloc ?_ (by first | omega | (simp; done) | (simp; omega)) _) | with_reducible refine Below.drew ?_ | with_reducible refine below_drewN ?_ _))⟩

set_option maxHeartbeats 400000 in
theorem unpackP_num (w : World) (n : Int) (h1 : 0 ≤ n) (h2 : n ≤ 18446744073709551615) (h3 : n % 2 = 1) :
    Calls Try.prog 20 #[.int .u64 n] w fun e w' => e = .returned (.tuple #[.agg #[.bool false, .int .i64 (unN n)], .int .i64 0]) ∧ Below w.heap.size w w' := by
  have e0 := and1 n h1 h2
  rw [h3] at e0
  clear h3
  have e1 : wrap64 n / 2 = unN n := by
    unfold unN; split
    · rw [show wrap64 n = n - 18446744073709551616 from by unfold wrap64; omega]
    · rw [show wrap64 n = n from by unfold wrap64; omega]
  clear h1 h2
  go_enter Try.func20, Try.ntmps20
  go_wp2
  refine bodyPost_ret (v := .tuple #[.agg #[.bool false, .int .i64 (unN n)], .int .i64 0]) (by simp [results, Try.results20, go_sem]) rfl ⟨rfl, (by repeat (first | with_reducible exact Below.refl _ _ | with_reducible (refine Below.setCell ?_ (by first | omega | (simp; done) | (simp; omega)) _) | with_reducible (refine Below.alloc ?_ (by first | omega | (simp; done) | (simp; omega)) _) | with_reducible refine Below.drew ?_ | with_reducible refine below_drewN ?_ _))⟩

set_option maxHeartbeats 400000 in
theorem unpackP_ref (w : World) (n : Int) (h1 : 0 ≤ n) (h2 : n ≤ 18446744073709551615) (h4 : n < 512) (h3 : n % 2 = 0) :
    Calls Try.prog 20 #[.int .u64 n] w fun e w' => e = .returned (.tuple #[.agg #[.bool true, .int .i64 (n / 2)], .int .i64 0]) ∧ Below w.heap.size w w' := by
  have e0 := and1 n h1 h2
  rw [h3] at e0
  clear h3
  go_enter Try.func20, Try.ntmps20
  go_wp2
  refine bodyPost_ret (v := .tuple #[.agg #[.bool true, .int .i64 (n / 2)], .int .i64 0]) (by simp [results, Try.results20, go_sem]) rfl ⟨rfl, (by repeat (first | with_reducible exact Below.refl _ _ | with_reducible (refine Below.setCell ?_ (by first | omega | (simp; done) | (simp; omega)) _) | with_reducible (refine Below.alloc ?_ (by first | omega | (simp; done) | (simp; omega)) _) | with_reducible refine Below.drew ?_ | with_reducible refine below_drewN ?_ _))⟩

set_option maxHeartbeats 400000 in
theorem unpackP_bad (w : World) (n : Int) (h1 : 0 ≤ n) (h2 : n ≤ 18446744073709551615) (h4 : ¬ n < 512) (h3 : n % 2 = 0) :
    Calls Try.prog 20 #[.int .u64 n] w fun e w' => e = .returned (.tuple #[.agg #[.bool false, .int .i64 0], .int .i64 2]) ∧ Below w.heap.size w w' := by
  have e0 := and1 n h1 h2
  rw [h3] at e0
  clear h3
  go_enter Try.func20, Try.ntmps20
  go_wp2
  refine bodyPost_ret (v := .tuple #[.agg #[.bool false, .int .i64 0], .int .i64 2]) (by simp [results, Try.results20, go_sem]) rfl ⟨rfl, (by repeat (first | with_reducible exact Below.refl _ _ | with_reducible (refine Below.setCell ?_ (by first | omega | (simp; done) | (simp; omega)) _) | with_reducible (refine Below.alloc ?_ (by first | omega | (simp; done) | (simp; omega)) _) | with_reducible refine Below.drew ?_ | with_reducible refine below_drewN ?_ _))⟩

set_option maxHeartbeats 400000 in
theorem unpackR_num (w : World) (n : Int) (h1 : 0 ≤ n) (h2 : n ≤ 18446744073709551615) (h3 : n % 2 = 1) :
    Calls Try.prog 21 #[.int .u64 n] w fun e w' => e = .returned (.tuple #[.agg #[.bool false, .int .i64 (unN n)], .int .i64 0]) ∧ Below w.heap.size w w' := by
  have e0 : (n % 2 == 0) = false := by simp [h3]
  by_cases hb : 4611686018427387903 < n / 2
  · have e1 : n / 2 - 4611686018427387904 - 4611686018427387904 = unN n := by
      unfold unN; rw [if_pos (by omega)]; omega
    go_enter Try.func21, Try.ntmps21
    go_wp2
    refine bodyPost_ret (v := .tuple #[.agg #[.bool false, .int .i64 (unN n)], .int .i64 0]) (by simp [results, Try.results21, go_sem]) rfl ⟨rfl, (by repeat (first | with_reducible exact Below.refl _ _ | with_reducible (refine Below.setCell ?_ (by first | omega | (simp; done) | (simp; omega)) _) | with_reducible (refine Below.alloc ?_ (by first | omega | (simp; done) | (simp; omega)) _) | with_reducible refine Below.drew ?_ | with_reducible refine below_drewN ?_ _))⟩
  · rw [show unN n = n / 2 from by unfold unN; rw [if_neg (by omega)]]
    go_enter Try.func21, Try.ntmps21
    go_wp2
    refine bodyPost_ret (v := .tuple #[.agg #[.bool false, .int .i64 (n / 2)], .int .i64 0]) (by simp [results, Try.results21, go_sem]) rfl ⟨rfl, (by repeat (first | with_reducible exact Below.refl _ _ | with_reducible (refine Below.setCell ?_ (by first | omega | (simp; done) | (simp; omega)) _) | with_reducible (refine Below.alloc ?_ (by first | omega | (simp; done) | (simp; omega)) _) | with_reducible refine Below.drew ?_ | with_reducible refine below_drewN ?_ _))⟩

set_option maxHeartbeats 400000 in
theorem unpackR_ref (w : World) (n : Int) (h1 : 0 ≤ n) (h2 : n ≤ 18446744073709551615) (h4 : n < 512) (h3 : n % 2 = 0) :
    Calls Try.prog 21 #[.int .u64 n] w fun e w' => e = .returned (.tuple #[.agg #[.bool true, .int .i64 (n / 2)], .int .i64 0]) ∧ Below w.heap.size w w' := by
  have e0 : (n % 2 == 0) = true := by simp [h3]
  go_enter Try.func21, Try.ntmps21
  go_wp2
  refine bodyPost_ret (v := .tuple #[.agg #[.bool true, .int .i64 (n / 2)], .int .i64 0]) (by simp [results, Try.results21, go_sem]) rfl ⟨rfl, (by repeat (first | with_reducible exact Below.refl _ _ | with_reducible (refine Below.setCell ?_ (by first | omega | (simp; done) | (simp; omega)) _) | with_reducible (refine Below.alloc ?_ (by first | omega | (simp; done) | (simp; omega)) _) | with_reducible refine Below.drew ?_ | with_reducible refine below_drewN ?_ _))⟩

set_option maxHeartbeats 400000 in
theorem unpackR_bad (w : World) (n : Int) (h1 : 0 ≤ n) (h2 : n ≤ 18446744073709551615) (h4 : ¬ n < 512) (h3 : n % 2 = 0) :
    Calls Try.prog 21 #[.int .u64 n] w fun e w' => e = .returned (.tuple #[.agg #[.bool false, .int .i64 0], .int .i64 2]) ∧ Below w.heap.size w w' := by
  have e0 : (n % 2 == 0) = true := by simp [h3]
  go_enter Try.func21, Try.ntmps21
  go_wp2
  refine bodyPost_ret (v := .tuple #[.agg #[.bool false, .int .i64 0], .int .i64 2]) (by simp [results, Try.results21, go_sem]) rfl ⟨rfl, (by repeat (first | with_reducible exact Below.refl _ _ | with_reducible (refine Below.setCell ?_ (by first | omega | (simp; done) | (simp; omega)) _) | with_reducible (refine Below.alloc ?_ (by first | omega | (simp; done) | (simp; omega)) _) | with_reducible refine Below.drew ?_ | with_reducible refine below_drewN ?_ _))⟩

end Go.Proofs.Ytpbafmdebflbpaa
