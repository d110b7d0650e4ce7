/- Words and headers: words.Head, Unhead, Pack, Unpack and the references': what each answers. Values as words: words.Pack, Unpack and the references': what each answers. The laws WordsHeads and WordsPacks: the walks. -/
import Derived.Test.YtpbafmdebflbpaaGMarkTells0
set_option linter.unusedSimpArgs false
set_option linter.unusedVariables false
namespace Go.Proofs.Ytpbafmdebflbpaa
open Go.RowKit

def headW (len : Int) (mark : Bool) (age : Int) : Int := 11889503016258109440 + age * 512 + (if mark then 256 else 0) + len
def headOK (len age : Int) : Prop := 0 ≤ len ∧ len ≤ 4 ∧ 0 ≤ age ∧ age ≤ 7

theorem or_table : (List.range 8).all (fun a => (List.range 5).all fun l =>
    bits BinOp.or IntKind.u64 (bits BinOp.or IntKind.u64 11889503016258109440 ((a : Int) * 512)) (l : Int) == headW l false a &&
    bits BinOp.or IntKind.u64 (headW l false a) 256 == headW l true a) = true := by decide +kernel

theorem or_head (len age : Int) (h1 : 0 ≤ len) (h2 : len ≤ 4) (h3 : 0 ≤ age) (h4 : age ≤ 7) :
    bits BinOp.or IntKind.u64 (bits BinOp.or IntKind.u64 11889503016258109440 (age * 512)) len = headW len false age ∧
    bits BinOp.or IntKind.u64 (headW len false age) 256 = headW len true age := by
  have h := or_table
  simp only [List.all_eq_true, List.mem_range, Bool.and_eq_true, beq_iff_eq] at h
  have := h age.toNat (by omega) len.toNat (by omega)
  rw [show ((age.toNat : Nat) : Int) = age from by omega, show ((len.toNat : Nat) : Int) = len from by omega] at this
  exact this

set_option maxHeartbeats 400000 in
theorem head14_ok (w : World) (len age : Int) (mark : Bool) (h1 : 0 ≤ len) (h2 : len ≤ 4) (h3 : 0 ≤ age) (h4 : age ≤ 7) :
    Calls Try.prog 14 #[.agg #[.int .i64 len, .bool mark, .int .i64 age]] w fun e w' => e = .returned (.tuple #[.int .u64 (headW len mark age), .int .i64 0]) ∧ Below w.heap.size w w' := by
  obtain ⟨e1, e2⟩ := or_head len age h1 h2 h3 h4
  cases mark
  · go_enter Try.func14, Try.ntmps14
    go_wp2
    go_ret2
    exact ⟨rfl, (Below.refl _ _).alloc (Nat.le_refl _) _⟩
  · go_enter Try.func14, Try.ntmps14
    go_wp2
    go_ret2
    exact ⟨rfl, (Below.refl _ _).alloc (Nat.le_refl _) _⟩

set_option maxHeartbeats 400000 in
theorem head14_bad (w : World) (len age : Int) (mark : Bool) (h : ¬ headOK len age) :
    Calls Try.prog 14 #[.agg #[.int .i64 len, .bool mark, .int .i64 age]] w fun e w' => e = .returned (.tuple #[.int .u64 0, .int .i64 3]) ∧ Below w.heap.size w w' := by
  have h' : (len < 0) ∨ (¬ len < 0 ∧ 4 < len) ∨ (¬ len < 0 ∧ ¬ 4 < len ∧ age < 0) ∨ (¬ len < 0 ∧ ¬ 4 < len ∧ ¬ age < 0 ∧ 7 < age) := by unfold headOK at h; omega
  clear h
  rcases h' with h | ⟨h, h1⟩ | ⟨h, h1, h2⟩ | ⟨h, h1, h2, h3⟩
  all_goals
    go_enter Try.func14, Try.ntmps14
    go_wp2
    go_ret2
    exact ⟨rfl, (Below.refl _ _).alloc (Nat.le_refl _) _⟩

set_option maxHeartbeats 400000 in
theorem head15_ok (w : World) (len age : Int) (mark : Bool) (h1 : 0 ≤ len) (h2 : len ≤ 4) (h3 : 0 ≤ age) (h4 : age ≤ 7) :
    Calls Try.prog 15 #[.agg #[.int .i64 len, .bool mark, .int .i64 age]] w fun e w' => e = .returned (.tuple #[.int .u64 (headW len mark age), .int .i64 0]) ∧ Below w.heap.size w w' := by
  cases mark
  · have e1 : 11889503016258109440 + age * 512 + len = headW len false age := by simp [headW]
    go_enter Try.func15, Try.ntmps15
    go_wp2
    go_ret2
    exact ⟨rfl, (Below.refl _ _).alloc (Nat.le_refl _) _⟩
  · have e1 : 11889503016258109440 + age * 512 + len + 256 = headW len true age := by simp [headW]; omega
    go_enter Try.func15, Try.ntmps15
    go_wp2
    go_ret2
    exact ⟨rfl, (Below.refl _ _).alloc (Nat.le_refl _) _⟩

set_option maxHeartbeats 400000 in
theorem head15_bad (w : World) (len age : Int) (mark : Bool) (h : ¬ headOK len age) :
    Calls Try.prog 15 #[.agg #[.int .i64 len, .bool mark, .int .i64 age]] w fun e w' => e = .returned (.tuple #[.int .u64 0, .int .i64 3]) ∧ Below w.heap.size w w' := by
  have h' : (len < 0) ∨ (¬ len < 0 ∧ 4 < len) ∨ (¬ len < 0 ∧ ¬ 4 < len ∧ age < 0) ∨ (¬ len < 0 ∧ ¬ 4 < len ∧ ¬ age < 0 ∧ 7 < age) := by unfold headOK at h; omega
  clear h
  rcases h' with h | ⟨h, h1⟩ | ⟨h, h1, h2⟩ | ⟨h, h1, h2, h3⟩
  all_goals
    go_enter Try.func15, Try.ntmps15
    go_wp2
    go_ret2
    exact ⟨rfl, (Below.refl _ _).alloc (Nat.le_refl _) _⟩



def hLen (n : Int) : Int := n % 256
def hMark (n : Int) : Bool := n / 256 % 2 == 1
def hAge (n : Int) : Int := n / 512 % 8
def unheadOK (n : Int) : Prop := hLen n ≤ 4 ∧ n / 4096 = 2902710697328640

theorem and_word (n : Int) (h1 : 0 ≤ n) (h2 : n ≤ 18446744073709551615) :
    bits BinOp.and IntKind.u64 n 255 = hLen n ∧ bits BinOp.and IntKind.u64 (n / 256) 1 = n / 256 % 2 ∧ bits BinOp.and IntKind.u64 (n / 512) 7 = hAge n := by
  refine ⟨?_, ?_, ?_⟩
  · rw [u64_and _ _ h1 (by omega) (by omega) (by omega), show (255 : Int).toNat = 255 from rfl, nat_mask8]; unfold hLen; omega
  · rw [u64_and _ _ (by omega) (by omega) (by omega) (by omega), show (1 : Int).toNat = 1 from rfl, nat_mask1]; omega
  · rw [u64_and _ _ (by omega) (by omega) (by omega) (by omega), show (7 : Int).toNat = 7 from rfl, nat_mask3]; unfold hAge; omega

/-- A word in its parts. -/
theorem word_split (n : Int) (_ : 0 ≤ n) : ∃ (len age m : Int) (b : Bool), 0 ≤ len ∧ len ≤ 255 ∧ 0 ≤ age ∧ age ≤ 7 ∧ 0 ≤ m ∧ m ≤ 1 ∧ hLen n = len ∧ hAge n = age ∧ n / 256 % 2 = m ∧ hMark n = b ∧ (m == 1) = b ∧
    n = n / 4096 * 4096 + headW len b age - 11889503016258109440 := by
  refine ⟨n % 256, n / 512 % 8, n / 256 % 2, n / 256 % 2 == 1, by omega, by omega, by omega, by omega, by omega, by omega, rfl, rfl, rfl, rfl, rfl, ?_⟩
  unfold headW
  by_cases h : n / 256 % 2 = 1
  · rw [show (n / 256 % 2 == 1) = true from by simp [h]]; simp only [if_true]; omega
  · rw [show (n / 256 % 2 == 1) = false from by simp [h]]; simp only [Bool.false_eq_true, if_false]; omega

set_option maxHeartbeats 400000 in
theorem unheadP_ok (w : World) (n : Int) (h1 : 0 ≤ n) (h2 : n ≤ 18446744073709551615) (hok : unheadOK n) :
    Calls Try.prog 16 #[.int .u64 n] w fun e w' => e = .returned (.tuple #[.agg #[.int .i64 (hLen n), .bool (hMark n), .int .i64 (hAge n)], .int .i64 0]) ∧ Below w.heap.size w w' := by
  obtain ⟨e1, e2, e3⟩ := and_word n h1 h2
  obtain ⟨len, age, m, b, l1, l2, a1, a2, m1, m2, el, ea, em, eb, hb, en⟩ := word_split n h1
  obtain ⟨o1, o2⟩ := hok
  rw [el] at e1 o1 ⊢
  rw [em] at e2
  rw [ea] at e3 ⊢
  rw [eb]
  have EN2 := hide (show (headW len b age != n) = false by rw [bne_eq_false_iff_eq]; rw [o2] at en; omega)
  clear o2 en el ea em eb
  go_enter Try.func16, Try.ntmps16
  go_wp2_with fail
  refine (head14_ok _ len age b l1 o1 a1 a2).mono ?_
  rintro e w1 ⟨rfl, hb1⟩
  obtain ⟨r1, r2, r3⟩ := ((((Blk.new w 23 _).alloc _).below_ hb1)).rules
  obtain ⟨q1, q2, q3⟩ := ((Blk.new _ 23 _).below_ hb1).rules
  have E2 := EN2.out
  have hz := hb1.size
  simp at hz q1 q2 q3
  go_wp2
  refine bodyPost_ret (v := .tuple #[.agg #[.int .i64 len, .bool b, .int .i64 age], .int .i64 0]) (by simp [results, Try.results16, go_sem, r1]) rfl ⟨rfl, (by repeat (first | with_reducible exact Below.refl _ _ | with_reducible (refine Below.setCell ?_ (by first | omega | (simp; done) | (simp; omega)) _) | with_reducible (refine Below.alloc ?_ (by first | omega | (simp; done) | (simp; omega)) _) | with_reducible refine Below.drew ?_ | with_reducible refine below_drewN ?_ _ | with_reducible (refine Below.trans ?_ (Below.mono hb1 (by first | omega | (simp; done) | (simp; omega))))))⟩

set_option maxHeartbeats 400000 in
theorem unheadP_bad (w : World) (n : Int) (h1 : 0 ≤ n) (h2 : n ≤ 18446744073709551615) (hok : ¬ unheadOK n) :
    Calls Try.prog 16 #[.int .u64 n] w fun e w' => e = .returned (.tuple #[.agg #[.int .i64 0, .bool false, .int .i64 0], .int .i64 4]) ∧ Below w.heap.size w w' := by
  obtain ⟨e1, e2, e3⟩ := and_word n h1 h2
  obtain ⟨len, age, m, b, l1, l2, a1, a2, m1, m2, el, ea, em, eb, hb, en⟩ := word_split n h1
  rw [el] at e1
  rw [em] at e2
  rw [ea] at e3
  by_cases o1 : len ≤ 4
  · have EN2 := hide (show (headW len b age != n) = true by
      rw [bne_iff_ne]; intro h; apply hok; refine ⟨by rw [el]; exact o1, ?_⟩; rw [h] at en; omega)
    clear en el ea em eb hok
    go_enter Try.func16, Try.ntmps16
    go_wp2_with fail
    refine (head14_ok _ len age b l1 o1 a1 a2).mono ?_
    rintro e w1 ⟨rfl, hb1⟩
    obtain ⟨r1, r2, r3⟩ := ((((Blk.new w 23 _).alloc _).below_ hb1)).rules
    obtain ⟨q1, q2, q3⟩ := ((Blk.new _ 23 _).below_ hb1).rules
    have E2 := EN2.out
    have hz := hb1.size
    simp at hz q1 q2 q3
    go_wp2
    refine bodyPost_ret (v := .tuple #[.agg #[.int .i64 0, .bool false, .int .i64 0], .int .i64 4]) (by simp [results, Try.results16, go_sem, r1]) rfl ⟨rfl, (by repeat (first | with_reducible exact Below.refl _ _ | with_reducible (refine Below.setCell ?_ (by first | omega | (simp; done) | (simp; omega)) _) | with_reducible (refine Below.alloc ?_ (by first | omega | (simp; done) | (simp; omega)) _) | with_reducible refine Below.drew ?_ | with_reducible refine below_drewN ?_ _ | with_reducible (refine Below.trans ?_ (Below.mono hb1 (by first | omega | (simp; done) | (simp; omega))))))⟩
  · clear en el ea em eb hok
    go_enter Try.func16, Try.ntmps16
    go_wp2_with fail
    refine (head14_bad _ len age b (fun h => by have := h.2.1; omega)).mono ?_
    rintro e w1 ⟨rfl, hb1⟩
    obtain ⟨r1, r2, r3⟩ := ((((Blk.new w 23 _).alloc _).below_ hb1)).rules
    obtain ⟨q1, q2, q3⟩ := ((Blk.new _ 23 _).below_ hb1).rules
    have hz := hb1.size
    simp at hz q1 q2 q3
    go_wp2
    refine bodyPost_ret (v := .tuple #[.agg #[.int .i64 0, .bool false, .int .i64 0], .int .i64 4]) (by simp [results, Try.results16, go_sem, r1]) rfl ⟨rfl, (by repeat (first | with_reducible exact Below.refl _ _ | with_reducible (refine Below.setCell ?_ (by first | omega | (simp; done) | (simp; omega)) _) | with_reducible (refine Below.alloc ?_ (by first | omega | (simp; done) | (simp; omega)) _) | with_reducible refine Below.drew ?_ | with_reducible refine below_drewN ?_ _ | with_reducible (refine Below.trans ?_ (Below.mono hb1 (by first | omega | (simp; done) | (simp; omega))))))⟩

set_option maxHeartbeats 400000 in
theorem unheadR_ok (w : World) (n : Int) (h1 : 0 ≤ n) (h2 : n ≤ 18446744073709551615) (hok : unheadOK n) :
    Calls Try.prog 17 #[.int .u64 n] w fun e w' => e = .returned (.tuple #[.agg #[.int .i64 (hLen n), .bool (hMark n), .int .i64 (hAge n)], .int .i64 0]) ∧ Below w.heap.size w w' := by
  obtain ⟨o1, o2⟩ := hok
  have o3 : (n / 4096 != 2902710697328640) = false := by simp [o2]
  clear o2
  unfold hLen hMark hAge at *
  go_enter Try.func17, Try.ntmps17
  go_wp2
  refine bodyPost_ret (v := .tuple #[.agg #[.int .i64 (n % 256), .bool (n / 256 % 2 == 1), .int .i64 (n / 512 % 8)], .int .i64 0]) (by simp [results, Try.results17, go_sem]) rfl ⟨rfl, (by repeat (first | with_reducible exact Below.refl _ _ | with_reducible (refine Below.setCell ?_ (by first | omega | (simp; done) | (simp; omega)) _) | with_reducible (refine Below.alloc ?_ (by first | omega | (simp; done) | (simp; omega)) _) | with_reducible refine Below.drew ?_ | with_reducible refine below_drewN ?_ _))⟩

set_option maxHeartbeats 400000 in
theorem unheadR_bad (w : World) (n : Int) (h1 : 0 ≤ n) (h2 : n ≤ 18446744073709551615) (hok : ¬ unheadOK n) :
    Calls Try.prog 17 #[.int .u64 n] w fun e w' => e = .returned (.tuple #[.agg #[.int .i64 0, .bool false, .int .i64 0], .int .i64 4]) ∧ Below w.heap.size w w' := by
  by_cases o1 : n % 256 ≤ 4
  · have o3 : (n / 4096 != 2902710697328640) = true := by rw [bne_iff_ne]; exact fun h => hok ⟨o1, h⟩
    clear hok
    go_enter Try.func17, Try.ntmps17
    go_wp2
    refine bodyPost_ret (v := .tuple #[.agg #[.int .i64 0, .bool false, .int .i64 0], .int .i64 4]) (by simp [results, Try.results17, go_sem]) rfl ⟨rfl, (by repeat (first | with_reducible exact Below.refl _ _ | with_reducible (refine Below.setCell ?_ (by first | omega | (simp; done) | (simp; omega)) _) | with_reducible (refine Below.alloc ?_ (by first | omega | (simp; done) | (simp; omega)) _) | with_reducible refine Below.drew ?_ | with_reducible refine below_drewN ?_ _))⟩
  · clear hok
    go_enter Try.func17, Try.ntmps17
    go_wp2
    refine bodyPost_ret (v := .tuple #[.agg #[.int .i64 0, .bool false, .int .i64 0], .int .i64 4]) (by simp [results, Try.results17, go_sem]) rfl ⟨rfl, (by repeat (first | with_reducible exact Below.refl _ _ | with_reducible (refine Below.setCell ?_ (by first | omega | (simp; done) | (simp; omega)) _) | with_reducible (refine Below.alloc ?_ (by first | omega | (simp; done) | (simp; omega)) _) | with_reducible refine Below.drew ?_ | with_reducible refine below_drewN ?_ _))⟩
end Go.Proofs.Ytpbafmdebflbpaa

namespace Go.Proofs.Ytpbafmdebflbpaa
open Go.RowKit

def packN (n : Int) : Int := (2 * n) % 18446744073709551616 + 1
def unN (n : Int) : Int := if 9223372036854775808 ≤ n then (n - 18446744073709551616) / 2 else n / 2

theorem packP_eq (n : Int) : bits BinOp.or IntKind.u64 (IntKind.u64.wrap (IntKind.u64.wrap n * 2)) 1 = packN n := by
  simp only [IntKind.wrap_u64]
  have h1 : 0 ≤ n % 18446744073709551616 * 2 % 18446744073709551616 := by omega
  rw [u64_or _ _ h1 (by omega) (by omega) (by omega), show (1 : Int).toNat = 1 from rfl, nat_join 1 _ _ (by omega) (by omega)]
  unfold packN
  omega
theorem packR_eq (n : Int) : IntKind.u64.wrap (IntKind.u64.wrap (IntKind.u64.wrap n + IntKind.u64.wrap n) + 1) = packN n := by
  simp only [IntKind.wrap_u64]
  unfold packN
  omega
theorem and1 (n : Int) (h1 : 0 ≤ n) (h2 : n ≤ 18446744073709551615) : bits BinOp.and IntKind.u64 n 1 = n % 2 := by
  rw [u64_and _ _ (by omega) (by omega) (by omega) (by omega), show (1 : Int).toNat = 1 from rfl, nat_mask1]; omega

set_option maxHeartbeats 400000 in
theorem packP_ref (w : World) (n : Int) (h1 : 0 ≤ n) (h2 : n < 256) :
    Calls Try.prog 18 #[.agg #[.bool true, .int .i64 n]] w fun e w' => e = .returned (.tuple #[.int .u64 (2 * n), .int .i64 0]) ∧ Below w.heap.size w w' := by
  have e1 : n * 2 = 2 * n := by omega
  go_enter Try.func18, Try.ntmps18
  go_wp2
  go_ret2
  exact ⟨rfl, (by repeat (first | with_reducible exact Below.refl _ _ | with_reducible (refine Below.setCell ?_ (by first | omega | (simp; done) | (simp; omega)) _) | with_reducible (refine Below.alloc ?_ (by first | omega | (simp; done) | (simp; omega)) _) | with_reducible refine Below.drew ?_ | with_reducible refine below_drewN ?_ _))⟩

set_option maxHeartbeats 400000 in
theorem packP_refbad (w : World) (n : Int) (h1 : ¬ (0 ≤ n ∧ n < 256)) :
    Calls Try.prog 18 #[.agg #[.bool true, .int .i64 n]] w fun e w' => e = .returned (.tuple #[.int .u64 0, .int .i64 2]) ∧ Below w.heap.size w w' := by
  rcases (show n < 0 ∨ (¬ n < 0 ∧ 256 ≤ n) by omega) with h2 | ⟨h2, h3⟩
  all_goals
    clear h1
    go_enter Try.func18, Try.ntmps18
    go_wp2
    go_ret2
    exact ⟨rfl, (by repeat (first | with_reducible exact Below.refl _ _ | with_reducible (refine Below.setCell ?_ (by first | omega | (simp; done) | (simp; omega)) _) | with_reducible (refine Below.alloc ?_ (by first | omega | (simp; done) | (simp; omega)) _) | with_reducible refine Below.drew ?_ | with_reducible refine below_drewN ?_ _))⟩

set_option maxHeartbeats 400000 in
theorem packP_num (w : World) (n : Int) (h1 : -4611686018427387904 ≤ n) (h2 : n ≤ 4611686018427387903) :
    Calls Try.prog 18 #[.agg #[.bool false, .int .i64 n]] w fun e w' => e = .returned (.tuple #[.int .u64 (packN n), .int .i64 0]) ∧ Below w.heap.size w w' := by
  have e1 := packP_eq n
  go_enter Try.func18, Try.ntmps18
  go_wp2
  go_ret2
  exact ⟨rfl, (by repeat (first | with_reducible exact Below.refl _ _ | with_reducible (refine Below.setCell ?_ (by first | omega | (simp; done) | (simp; omega)) _) | with_reducible (refine Below.alloc ?_ (by first | omega | (simp; done) | (simp; omega)) _) | with_reducible refine Below.drew ?_ | with_reducible refine below_drewN ?_ _))⟩

set_option maxHeartbeats 400000 in
theorem packP_numbad (w : World) (n : Int) (h1 : ¬ (-4611686018427387904 ≤ n ∧ n ≤ 4611686018427387903)) :
    Calls Try.prog 18 #[.agg #[.bool false, .int .i64 n]] w fun e w' => e = .returned (.tuple #[.int .u64 0, .int .i64 3]) ∧ Below w.heap.size w w' := by
  rcases (show n < -4611686018427387904 ∨ (¬ n < -4611686018427387904 ∧ 4611686018427387903 < n) by omega) with h2 | ⟨h2, h3⟩
  all_goals
    clear h1
    go_enter Try.func18, Try.ntmps18
    go_wp2
    go_ret2
    exact ⟨rfl, (by repeat (first | with_reducible exact Below.refl _ _ | with_reducible (refine Below.setCell ?_ (by first | omega | (simp; done) | (simp; omega)) _) | with_reducible (refine Below.alloc ?_ (by first | omega | (simp; done) | (simp; omega)) _) | with_reducible refine Below.drew ?_ | with_reducible refine below_drewN ?_ _))⟩

set_option maxHeartbeats 400000 in
theorem packR_ref (w : World) (n : Int) (h1 : 0 ≤ n) (h2 : n < 256) :
    Calls Try.prog 19 #[.agg #[.bool true, .int .i64 n]] w fun e w' => e = .returned (.tuple #[.int .u64 (2 * n), .int .i64 0]) ∧ Below w.heap.size w w' := by
  have e1 : n + n = 2 * n := by omega
  go_enter Try.func19, Try.ntmps19
  go_wp2
  go_ret2
  exact ⟨rfl, (by repeat (first | with_reducible exact Below.refl _ _ | with_reducible (refine Below.setCell ?_ (by first | omega | (simp; done) | (simp; omega)) _) | with_reducible (refine Below.alloc ?_ (by first | omega | (simp; done) | (simp; omega)) _) | with_reducible refine Below.drew ?_ | with_reducible refine below_drewN ?_ _))⟩

set_option maxHeartbeats 400000 in
theorem packR_refbad (w : World) (n : Int) (h1 : ¬ (0 ≤ n ∧ n < 256)) :
    Calls Try.prog 19 #[.agg #[.bool true, .int .i64 n]] w fun e w' => e = .returned (.tuple #[.int .u64 0, .int .i64 2]) ∧ Below w.heap.size w w' := by
  rcases (show n < 0 ∨ (¬ n < 0 ∧ 256 ≤ n) by omega) with h2 | ⟨h2, h3⟩
  all_goals
    clear h1
    go_enter Try.func19, Try.ntmps19
    go_wp2
    go_ret2
    exact ⟨rfl, (by repeat (first | with_reducible exact Below.refl _ _ | with_reducible (refine Below.setCell ?_ (by first | omega | (simp; done) | (simp; omega)) _) | with_reducible (refine Below.alloc ?_ (by first | omega | (simp; done) | (simp; omega)) _) | with_reducible refine Below.drew ?_ | with_reducible refine below_drewN ?_ _))⟩

set_option maxHeartbeats 400000 in
theorem packR_num (w : World) (n : Int) (h1 : -4611686018427387904 ≤ n) (h2 : n ≤ 4611686018427387903) :
    Calls Try.prog 19 #[.agg #[.bool false, .int .i64 n]] w fun e w' => e = .returned (.tuple #[.int .u64 (packN n), .int .i64 0]) ∧ Below w.heap.size w w' := by
  have e1 := packR_eq n
  go_enter Try.func19, Try.ntmps19
  go_wp2
  go_ret2
  exact ⟨rfl, (by repeat (first | with_reducible exact Below.refl _ _ | with_reducible (refine Below.setCell ?_ (by first | omega | (simp; done) | (simp; omega)) _) | with_reducible (refine Below.alloc ?_ (by first | omega | (simp; done) | (simp; omega)) _) | with_reducible refine Below.drew ?_ | with_reducible refine below_drewN ?_ _))⟩

set_option maxHeartbeats 400000 in
theorem packR_numbad (w : World) (n : Int) (h1 : ¬ (-4611686018427387904 ≤ n ∧ n ≤ 4611686018427387903)) :
    Calls Try.prog 19 #[.agg #[.bool false, .int .i64 n]] w fun e w' => e = .returned (.tuple #[.int .u64 0, .int .i64 3]) ∧ Below w.heap.size w w' := by
  rcases (show n < -4611686018427387904 ∨ (¬ n < -4611686018427387904 ∧ 4611686018427387903 < n) by omega) with h2 | ⟨h2, h3⟩
  all_goals
    clear h1
    go_enter Try.func19, Try.ntmps19
    go_wp2
    go_ret2
    exact ⟨rfl, (by repeat (first | with_reducible exact Below.refl _ _ | with_reducible (refine Below.setCell ?_ (by first | omega | (simp; done) | (simp; omega)) _) | with_reducible (refine Below.alloc ?_ (by first | omega | (simp; done) | (simp; omega)) _) | with_reducible refine Below.drew ?_ | with_reducible refine below_drewN ?_ _))⟩

set_option maxHeartbeats 400000 in
theorem unpackP_num (w : World) (n : Int) (h1 : 0 ≤ n) (h2 : n ≤ 18446744073709551615) (h3 : n % 2 = 1) :
    Calls Try.prog 20 #[.int .u64 n] w fun e w' => e = .returned (.tuple #[.agg #[.bool false, .int .i64 (unN n)], .int .i64 0]) ∧ Below w.heap.size w w' := by
  have e0 := and1 n h1 h2
  rw [h3] at e0
  clear h3
  have e1 : wrap64 n / 2 = unN n := by
    unfold unN; split
    · rw [show wrap64 n = n - 18446744073709551616 from by unfold wrap64; omega]
    · rw [show wrap64 n = n from by unfold wrap64; omega]
  clear h1 h2
  go_enter Try.func20, Try.ntmps20
  go_wp2
  refine bodyPost_ret (v := .tuple #[.agg #[.bool false, .int .i64 (unN n)], .int .i64 0]) (by simp [results, Try.results20, go_sem]) rfl ⟨rfl, (by repeat (first | with_reducible exact Below.refl _ _ | with_reducible (refine Below.setCell ?_ (by first | omega | (simp; done) | (simp; omega)) _) | with_reducible (refine Below.alloc ?_ (by first | omega | (simp; done) | (simp; omega)) _) | with_reducible refine Below.drew ?_ | with_reducible refine below_drewN ?_ _))⟩

set_option maxHeartbeats 400000 in
theorem unpackP_ref (w : World) (n : Int) (h1 : 0 ≤ n) (h2 : n ≤ 18446744073709551615) (h4 : n < 512) (h3 : n % 2 = 0) :
    Calls Try.prog 20 #[.int .u64 n] w fun e w' => e = .returned (.tuple #[.agg #[.bool true, .int .i64 (n / 2)], .int .i64 0]) ∧ Below w.heap.size w w' := by
  have e0 := and1 n h1 h2
  rw [h3] at e0
  clear h3
  go_enter Try.func20, Try.ntmps20
  go_wp2
  refine bodyPost_ret (v := .tuple #[.agg #[.bool true, .int .i64 (n / 2)], .int .i64 0]) (by simp [results, Try.results20, go_sem]) rfl ⟨rfl, (by repeat (first | with_reducible exact Below.refl _ _ | with_reducible (refine Below.setCell ?_ (by first | omega | (simp; done) | (simp; omega)) _) | with_reducible (refine Below.alloc ?_ (by first | omega | (simp; done) | (simp; omega)) _) | with_reducible refine Below.drew ?_ | with_reducible refine below_drewN ?_ _))⟩

set_option maxHeartbeats 400000 in
theorem unpackP_bad (w : World) (n : Int) (h1 : 0 ≤ n) (h2 : n ≤ 18446744073709551615) (h4 : ¬ n < 512) (h3 : n % 2 = 0) :
    Calls Try.prog 20 #[.int .u64 n] w fun e w' => e = .returned (.tuple #[.agg #[.bool false, .int .i64 0], .int .i64 2]) ∧ Below w.heap.size w w' := by
  have e0 := and1 n h1 h2
  rw [h3] at e0
  clear h3
  go_enter Try.func20, Try.ntmps20
  go_wp2
  refine bodyPost_ret (v := .tuple #[.agg #[.bool false, .int .i64 0], .int .i64 2]) (by simp [results, Try.results20, go_sem]) rfl ⟨rfl, (by repeat (first | with_reducible exact Below.refl _ _ | with_reducible (refine Below.setCell ?_ (by first | omega | (simp; done) | (simp; omega)) _) | with_reducible (refine Below.alloc ?_ (by first | omega | (simp; done) | (simp; omega)) _) | with_reducible refine Below.drew ?_ | with_reducible refine below_drewN ?_ _))⟩

set_option maxHeartbeats 400000 in
theorem unpackR_num (w : World) (n : Int) (h1 : 0 ≤ n) (h2 : n ≤ 18446744073709551615) (h3 : n % 2 = 1) :
    Calls Try.prog 21 #[.int .u64 n] w fun e w' => e = .returned (.tuple #[.agg #[.bool false, .int .i64 (unN n)], .int .i64 0]) ∧ Below w.heap.size w w' := by
  have e0 : (n % 2 == 0) = false := by simp [h3]
  by_cases hb : 4611686018427387903 < n / 2
  · have e1 : n / 2 - 4611686018427387904 - 4611686018427387904 = unN n := by
      unfold unN; rw [if_pos (by omega)]; omega
    go_enter Try.func21, Try.ntmps21
    go_wp2
    refine bodyPost_ret (v := .tuple #[.agg #[.bool false, .int .i64 (unN n)], .int .i64 0]) (by simp [results, Try.results21, go_sem]) rfl ⟨rfl, (by repeat (first | with_reducible exact Below.refl _ _ | with_reducible (refine Below.setCell ?_ (by first | omega | (simp; done) | (simp; omega)) _) | with_reducible (refine Below.alloc ?_ (by first | omega | (simp; done) | (simp; omega)) _) | with_reducible refine Below.drew ?_ | with_reducible refine below_drewN ?_ _))⟩
  · rw [show unN n = n / 2 from by unfold unN; rw [if_neg (by omega)]]
    go_enter Try.func21, Try.ntmps21
    go_wp2
    refine bodyPost_ret (v := .tuple #[.agg #[.bool false, .int .i64 (n / 2)], .int .i64 0]) (by simp [results, Try.results21, go_sem]) rfl ⟨rfl, (by repeat (first | with_reducible exact Below.refl _ _ | with_reducible (refine Below.setCell ?_ (by first | omega | (simp; done) | (simp; omega)) _) | with_reducible (refine Below.alloc ?_ (by first | omega | (simp; done) | (simp; omega)) _) | with_reducible refine Below.drew ?_ | with_reducible refine below_drewN ?_ _))⟩

set_option maxHeartbeats 400000 in
theorem unpackR_ref (w : World) (n : Int) (h1 : 0 ≤ n) (h2 : n ≤ 18446744073709551615) (h4 : n < 512) (h3 : n % 2 = 0) :
    Calls Try.prog 21 #[.int .u64 n] w fun e w' => e = .returned (.tuple #[.agg #[.bool true, .int .i64 (n / 2)], .int .i64 0]) ∧ Below w.heap.size w w' := by
  have e0 : (n % 2 == 0) = true := by simp [h3]
  go_enter Try.func21, Try.ntmps21
  go_wp2
  refine bodyPost_ret (v := .tuple #[.agg #[.bool true, .int .i64 (n / 2)], .int .i64 0]) (by simp [results, Try.results21, go_sem]) rfl ⟨rfl, (by repeat (first | with_reducible exact Below.refl _ _ | with_reducible (refine Below.setCell ?_ (by first | omega | (simp; done) | (simp; omega)) _) | with_reducible (refine Below.alloc ?_ (by first | omega | (simp; done) | (simp; omega)) _) | with_reducible refine Below.drew ?_ | with_reducible refine below_drewN ?_ _))⟩

set_option maxHeartbeats 400000 in
theorem unpackR_bad (w : World) (n : Int) (h1 : 0 ≤ n) (h2 : n ≤ 18446744073709551615) (h4 : ¬ n < 512) (h3 : n % 2 = 0) :
    Calls Try.prog 21 #[.int .u64 n] w fun e w' => e = .returned (.tuple #[.agg #[.bool false, .int .i64 0], .int .i64 2]) ∧ Below w.heap.size w w' := by
  have e0 : (n % 2 == 0) = true := by simp [h3]
  go_enter Try.func21, Try.ntmps21
  go_wp2
  refine bodyPost_ret (v := .tuple #[.agg #[.bool false, .int .i64 0], .int .i64 2]) (by simp [results, Try.results21, go_sem]) rfl ⟨rfl, (by repeat (first | with_reducible exact Below.refl _ _ | with_reducible (refine Below.setCell ?_ (by first | omega | (simp; done) | (simp; omega)) _) | with_reducible (refine Below.alloc ?_ (by first | omega | (simp; done) | (simp; omega)) _) | with_reducible refine Below.drew ?_ | with_reducible refine below_drewN ?_ _))⟩

end Go.Proofs.Ytpbafmdebflbpaa

namespace Go.Proofs.Ytpbafmdebflbpaa
open Go.RowKit

set_option maxHeartbeats 800000 in
theorem wordsHeads_walk (w : World) (len age n : Int) (mark : Bool) (h1 : 0 ≤ n) (h2 : n ≤ 18446744073709551615) :
    Calls Try.prog 3 #[.agg #[.int .i64 len, .bool mark, .int .i64 age], .int .u64 n] w fun e w' => e = .returned (.bool true) ∧ Below w.heap.size w w' := by
  by_cases hh : headOK len age
  · by_cases hu : unheadOK n
    · go_enter Try.func3, Try.ntmps3
      go_wp2_with fail
      refine (head14_ok _ len age mark hh.1 hh.2.1 hh.2.2.1 hh.2.2.2).mono ?_
      rintro e w1 ⟨rfl, hb1⟩
      obtain ⟨r1, r2, r3⟩ := ((Blk.new w 23 _).below_ hb1).rules
      have hz := hb1.size
      simp at hz
      go_wp2_with fail
      refine (head15_ok _ len age mark hh.1 hh.2.1 hh.2.2.1 hh.2.2.2).mono ?_
      rintro e w2 ⟨rfl, hb2⟩
      go_wp2_with fail
      refine (unheadP_ok _ n h1 h2 hu).mono ?_
      rintro e w3 ⟨rfl, hb3⟩
      go_wp2_with fail
      refine (unheadR_ok _ n h1 h2 hu).mono ?_
      rintro e w4 ⟨rfl, hb4⟩
      obtain ⟨q1, q2, q3⟩ := ((Blk.new w3 23 _).below_ hb4).rules
      have hz2 := hb2.size
      have hz3 := hb3.size
      have hz4 := hb4.size
      simp at hz4
      clear r1 r2 r3
      go_wp2
      go_ret
      exact ⟨rfl, (by repeat (first | with_reducible exact Below.refl _ _ | with_reducible (refine Below.setCell ?_ (by first | omega | (simp; done) | (simp; omega)) _) | with_reducible (refine Below.alloc ?_ (by first | omega | (simp; done) | (simp; omega)) _) | with_reducible refine Below.drew ?_ | with_reducible refine below_drewN ?_ _ | with_reducible (refine Below.trans ?_ (Below.mono hb4 (by first | omega | (simp; done) | (simp; omega)))) | with_reducible (refine Below.trans ?_ (Below.mono hb3 (by first | omega | (simp; done) | (simp; omega)))) | with_reducible (refine Below.trans ?_ (Below.mono hb2 (by first | omega | (simp; done) | (simp; omega)))) | with_reducible (refine Below.trans ?_ (Below.mono hb1 (by first | omega | (simp; done) | (simp; omega))))))⟩
    · go_enter Try.func3, Try.ntmps3
      go_wp2_with fail
      refine (head14_ok _ len age mark hh.1 hh.2.1 hh.2.2.1 hh.2.2.2).mono ?_
      rintro e w1 ⟨rfl, hb1⟩
      obtain ⟨r1, r2, r3⟩ := ((Blk.new w 23 _).below_ hb1).rules
      have hz := hb1.size
      simp at hz
      go_wp2_with fail
      refine (head15_ok _ len age mark hh.1 hh.2.1 hh.2.2.1 hh.2.2.2).mono ?_
      rintro e w2 ⟨rfl, hb2⟩
      go_wp2_with fail
      refine (unheadP_bad _ n h1 h2 hu).mono ?_
      rintro e w3 ⟨rfl, hb3⟩
      go_wp2_with fail
      refine (unheadR_bad _ n h1 h2 hu).mono ?_
      rintro e w4 ⟨rfl, hb4⟩
      obtain ⟨q1, q2, q3⟩ := ((Blk.new w3 23 _).below_ hb4).rules
      have hz2 := hb2.size
      have hz3 := hb3.size
      have hz4 := hb4.size
      simp at hz4
      clear r1 r2 r3
      go_wp2
      go_ret
      exact ⟨rfl, (by repeat (first | with_reducible exact Below.refl _ _ | with_reducible (refine Below.setCell ?_ (by first | omega | (simp; done) | (simp; omega)) _) | with_reducible (refine Below.alloc ?_ (by first | omega | (simp; done) | (simp; omega)) _) | with_reducible refine Below.drew ?_ | with_reducible refine below_drewN ?_ _ | with_reducible (refine Below.trans ?_ (Below.mono hb4 (by first | omega | (simp; done) | (simp; omega)))) | with_reducible (refine Below.trans ?_ (Below.mono hb3 (by first | omega | (simp; done) | (simp; omega)))) | with_reducible (refine Below.trans ?_ (Below.mono hb2 (by first | omega | (simp; done) | (simp; omega)))) | with_reducible (refine Below.trans ?_ (Below.mono hb1 (by first | omega | (simp; done) | (simp; omega))))))⟩
  · by_cases hu : unheadOK n
    · go_enter Try.func3, Try.ntmps3
      go_wp2_with fail
      refine (head14_bad _ len age mark hh).mono ?_
      rintro e w1 ⟨rfl, hb1⟩
      obtain ⟨r1, r2, r3⟩ := ((Blk.new w 23 _).below_ hb1).rules
      have hz := hb1.size
      simp at hz
      go_wp2_with fail
      refine (head15_bad _ len age mark hh).mono ?_
      rintro e w2 ⟨rfl, hb2⟩
      go_wp2_with fail
      refine (unheadP_ok _ n h1 h2 hu).mono ?_
      rintro e w3 ⟨rfl, hb3⟩
      go_wp2_with fail
      refine (unheadR_ok _ n h1 h2 hu).mono ?_
      rintro e w4 ⟨rfl, hb4⟩
      obtain ⟨q1, q2, q3⟩ := ((Blk.new w3 23 _).below_ hb4).rules
      have hz2 := hb2.size
      have hz3 := hb3.size
      have hz4 := hb4.size
      simp at hz4
      clear r1 r2 r3
      go_wp2
      go_ret
      exact ⟨rfl, (by repeat (first | with_reducible exact Below.refl _ _ | with_reducible (refine Below.setCell ?_ (by first | omega | (simp; done) | (simp; omega)) _) | with_reducible (refine Below.alloc ?_ (by first | omega | (simp; done) | (simp; omega)) _) | with_reducible refine Below.drew ?_ | with_reducible refine below_drewN ?_ _ | with_reducible (refine Below.trans ?_ (Below.mono hb4 (by first | omega | (simp; done) | (simp; omega)))) | with_reducible (refine Below.trans ?_ (Below.mono hb3 (by first | omega | (simp; done) | (simp; omega)))) | with_reducible (refine Below.trans ?_ (Below.mono hb2 (by first | omega | (simp; done) | (simp; omega)))) | with_reducible (refine Below.trans ?_ (Below.mono hb1 (by first | omega | (simp; done) | (simp; omega))))))⟩
    · go_enter Try.func3, Try.ntmps3
      go_wp2_with fail
      refine (head14_bad _ len age mark hh).mono ?_
      rintro e w1 ⟨rfl, hb1⟩
      obtain ⟨r1, r2, r3⟩ := ((Blk.new w 23 _).below_ hb1).rules
      have hz := hb1.size
      simp at hz
      go_wp2_with fail
      refine (head15_bad _ len age mark hh).mono ?_
      rintro e w2 ⟨rfl, hb2⟩
      go_wp2_with fail
      refine (unheadP_bad _ n h1 h2 hu).mono ?_
      rintro e w3 ⟨rfl, hb3⟩
      go_wp2_with fail
      refine (unheadR_bad _ n h1 h2 hu).mono ?_
      rintro e w4 ⟨rfl, hb4⟩
      obtain ⟨q1, q2, q3⟩ := ((Blk.new w3 23 _).below_ hb4).rules
      have hz2 := hb2.size
      have hz3 := hb3.size
      have hz4 := hb4.size
      simp at hz4
      clear r1 r2 r3
      go_wp2
      go_ret
      exact ⟨rfl, (by repeat (first | with_reducible exact Below.refl _ _ | with_reducible (refine Below.setCell ?_ (by first | omega | (simp; done) | (simp; omega)) _) | with_reducible (refine Below.alloc ?_ (by first | omega | (simp; done) | (simp; omega)) _) | with_reducible refine Below.drew ?_ | with_reducible refine below_drewN ?_ _ | with_reducible (refine Below.trans ?_ (Below.mono hb4 (by first | omega | (simp; done) | (simp; omega)))) | with_reducible (refine Below.trans ?_ (Below.mono hb3 (by first | omega | (simp; done) | (simp; omega)))) | with_reducible (refine Below.trans ?_ (Below.mono hb2 (by first | omega | (simp; done) | (simp; omega)))) | with_reducible (refine Below.trans ?_ (Below.mono hb1 (by first | omega | (simp; done) | (simp; omega))))))⟩

/-! ### One contract each, whatever the argument. -/
def packA (r : Bool) (n : Int) : Int := if r then (if 0 ≤ n ∧ n < 256 then 2 * n else 0) else (if -4611686018427387904 ≤ n ∧ n ≤ 4611686018427387903 then packN n else 0)
def packE (r : Bool) (n : Int) : Int := if r then (if 0 ≤ n ∧ n < 256 then 0 else 2) else (if -4611686018427387904 ≤ n ∧ n ≤ 4611686018427387903 then 0 else 3)
def unR (n : Int) : Bool := decide (n % 2 = 0 ∧ n < 512)
def unA (n : Int) : Int := if n % 2 = 1 then unN n else if n < 512 then n / 2 else 0
def unE (n : Int) : Int := if n % 2 = 1 then 0 else if n < 512 then 0 else 2

theorem packP_any (w : World) (r : Bool) (n : Int) :
    Calls Try.prog 18 #[.agg #[.bool r, .int .i64 n]] w fun e w' => e = .returned (.tuple #[.int .u64 (packA r n), .int .i64 (packE r n)]) ∧ Below w.heap.size w w' := by
  unfold packA packE
  cases r
  · simp only [Bool.false_eq_true, if_false]
    by_cases h : -4611686018427387904 ≤ n ∧ n ≤ 4611686018427387903
    · rw [if_pos h, if_pos h]; exact packP_num w n h.1 h.2
    · rw [if_neg h, if_neg h]; exact packP_numbad w n h
  · simp only [if_true]
    by_cases h : 0 ≤ n ∧ n < 256
    · rw [if_pos h, if_pos h]; exact packP_ref w n h.1 h.2
    · rw [if_neg h, if_neg h]; exact packP_refbad w n h

theorem packR_any (w : World) (r : Bool) (n : Int) :
    Calls Try.prog 19 #[.agg #[.bool r, .int .i64 n]] w fun e w' => e = .returned (.tuple #[.int .u64 (packA r n), .int .i64 (packE r n)]) ∧ Below w.heap.size w w' := by
  unfold packA packE
  cases r
  · simp only [Bool.false_eq_true, if_false]
    by_cases h : -4611686018427387904 ≤ n ∧ n ≤ 4611686018427387903
    · rw [if_pos h, if_pos h]; exact packR_num w n h.1 h.2
    · rw [if_neg h, if_neg h]; exact packR_numbad w n h
  · simp only [if_true]
    by_cases h : 0 ≤ n ∧ n < 256
    · rw [if_pos h, if_pos h]; exact packR_ref w n h.1 h.2
    · rw [if_neg h, if_neg h]; exact packR_refbad w n h

theorem unpackP_any (w : World) (n : Int) (h1 : 0 ≤ n) (h2 : n ≤ 18446744073709551615) :
    Calls Try.prog 20 #[.int .u64 n] w fun e w' => e = .returned (.tuple #[.agg #[.bool (unR n), .int .i64 (unA n)], .int .i64 (unE n)]) ∧ Below w.heap.size w w' := by
  unfold unR unA unE
  by_cases h : n % 2 = 1
  · rw [if_pos h, if_pos h, show decide (n % 2 = 0 ∧ n < 512) = false from by simp; omega]; exact unpackP_num w n h1 h2 h
  · rw [if_neg h, if_neg h]
    by_cases h3 : n < 512
    · rw [if_pos h3, if_pos h3, show decide (n % 2 = 0 ∧ n < 512) = true from by simp; omega]; exact unpackP_ref w n h1 h2 h3 (by omega)
    · rw [if_neg h3, if_neg h3, show decide (n % 2 = 0 ∧ n < 512) = false from by simp; omega]; exact unpackP_bad w n h1 h2 h3 (by omega)

theorem unpackR_any (w : World) (n : Int) (h1 : 0 ≤ n) (h2 : n ≤ 18446744073709551615) :
    Calls Try.prog 21 #[.int .u64 n] w fun e w' => e = .returned (.tuple #[.agg #[.bool (unR n), .int .i64 (unA n)], .int .i64 (unE n)]) ∧ Below w.heap.size w w' := by
  unfold unR unA unE
  by_cases h : n % 2 = 1
  · rw [if_pos h, if_pos h, show decide (n % 2 = 0 ∧ n < 512) = false from by simp; omega]; exact unpackR_num w n h1 h2 h
  · rw [if_neg h, if_neg h]
    by_cases h3 : n < 512
    · rw [if_pos h3, if_pos h3, show decide (n % 2 = 0 ∧ n < 512) = true from by simp; omega]; exact unpackR_ref w n h1 h2 h3 (by omega)
    · rw [if_neg h3, if_neg h3, show decide (n % 2 = 0 ∧ n < 512) = false from by simp; omega]; exact unpackR_bad w n h1 h2 h3 (by omega)

set_option maxHeartbeats 800000 in
theorem wordsPacks_walk (w : World) (v n : Int) (r : Bool) (h1 : 0 ≤ n) (h2 : n ≤ 18446744073709551615) :
    Calls Try.prog 4 #[.agg #[.bool r, .int .i64 v], .int .u64 n] w fun e w' => e = .returned (.bool true) ∧ Below w.heap.size w w' := by
  go_enter Try.func4, Try.ntmps4
  go_wp2_with fail
  refine (packP_any _ r v).mono ?_
  rintro e w1 ⟨rfl, hb1⟩
  obtain ⟨r1, r2, r3⟩ := ((Blk.new w 32 _).below_ hb1).rules
  have hz := hb1.size
  simp at hz
  go_wp2_with fail
  refine (packR_any _ r v).mono ?_
  rintro e w2 ⟨rfl, hb2⟩
  go_wp2_with fail
  refine (unpackP_any _ n h1 h2).mono ?_
  rintro e w3 ⟨rfl, hb3⟩
  go_wp2_with fail
  refine (unpackR_any _ n h1 h2).mono ?_
  rintro e w4 ⟨rfl, hb4⟩
  obtain ⟨q1, q2, q3⟩ := ((Blk.new w3 32 _).below_ hb4).rules
  have hz2 := hb2.size
  have hz3 := hb3.size
  have hz4 := hb4.size
  simp at hz4
  clear r1 r2 r3
  go_wp2
  go_ret
  exact ⟨rfl, (by repeat (first | with_reducible exact Below.refl _ _ | with_reducible (refine Below.setCell ?_ (by first | omega | (simp; done) | (simp; omega)) _) | with_reducible (refine Below.alloc ?_ (by first | omega | (simp; done) | (simp; omega)) _) | with_reducible refine Below.drew ?_ | with_reducible refine below_drewN ?_ _ | with_reducible (refine Below.trans ?_ (Below.mono hb4 (by first | omega | (simp; done) | (simp; omega)))) | with_reducible (refine Below.trans ?_ (Below.mono hb3 (by first | omega | (simp; done) | (simp; omega)))) | with_reducible (refine Below.trans ?_ (Below.mono hb2 (by first | omega | (simp; done) | (simp; omega)))) | with_reducible (refine Below.trans ?_ (Below.mono hb1 (by first | omega | (simp; done) | (simp; omega))))))⟩
end Go.Proofs.Ytpbafmdebflbpaa
