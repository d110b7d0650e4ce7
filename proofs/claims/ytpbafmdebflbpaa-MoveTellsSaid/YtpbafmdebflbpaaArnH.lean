/- slices.BinarySearch at ints, where the number is there. -/
import Derived.Test.YtpbafmdebflbpaaArnG
namespace Go.Proofs.Ytpbafmdebflbpaa
open Go.RowKit

set_option maxHeartbeats 400000 in
theorem cisnan (w : World) (a : Int) : Calls Try.prog 125 #[.int .i64 a] w fun e w' => e = .returned (.bool false) ∧ w' = w := by
  go_enter Try.func125, Try.ntmps125
  go_wp2_with fail
  go_ret
  exact ⟨by simp, rfl⟩
set_option maxHeartbeats 400000 in
theorem less_any (w : World) (a b : Int) : Calls Try.prog 108 #[.int .i64 a, .int .i64 b] w fun e w' => e = .returned (.bool (decide (a < b))) ∧ w' = w := by
  go_enter Try.func108, Try.ntmps108
  go_wp2_with fail
  refine (cisnan w a).mono ?_
  rintro e w1 ⟨rfl, rfl⟩
  go_wp2_with fail
  go_ret
  exact ⟨rfl, rfl⟩

set_option maxRecDepth 100000 in
set_option maxHeartbeats 4000000 in
theorem bsearch_any (w : World) (A : Option Addr) (n c idx : Nat) (xs : List Int) (x : Int) (hn : n ≤ 1000) (h : Rd w (fun _ => True) 1 A n (ints xs)) (hidx : idx < n) (hx : xs[idx]? = some x) (hm : ∀ (i j : Nat) (a b : Int), i < j → xs[i]? = some a → xs[j]? = some b → a < b) :
    Calls Try.prog 78 #[.slice A n c, .int .i64 x] w fun e w' => e = .returned (.tuple #[.int .i64 idx, .bool true]) ∧ w' = w := by
  have HL := hide (show xs.length = n by have := h.1; simpa using this)
  have HX := hide hx
  have HM := hide hm
  obtain ⟨ad, hA, _, _, hc⟩ := h.2 (by omega)
  subst hA
  clear hx hm
  go_enter Try.func78, Try.ntmps78
  go_wp2_with fail
  go_loopw [7, 8] (fun s7 s8 wr => ∃ lo hi : Nat, lo ≤ idx ∧ idx ≤ hi ∧ hi ≤ n ∧ s7 = .int .i64 lo ∧ s8 = .int .i64 hi ∧ wr = w) (fun s7 s8 _ => (intOf s8).toNat - (intOf s7).toNat)
  case atStart => exact ⟨0, n, by omega, by omega, by omega, rfl, rfl, rfl⟩
  case round =>
    obtain ⟨lo, hi, h1, h2, h3, rfl, rfl, rfl⟩ := hrel
    by_cases hlt : lo < hi
    · have hb1 : (lo : Int) + hi ≤ 2000 := by omega
      have hml : (lo + hi) / 2 < xs.length := by rw [HL.out]; omega
      have e0 := hc ((lo + hi) / 2) (.int .i64 xs[(lo + hi) / 2]) (by simp [ints, List.getElem?_eq_getElem hml])
      have hy1 : xs[(lo + hi) / 2]? = some xs[(lo + hi) / 2] := List.getElem?_eq_getElem hml
      obtain ⟨y, hy⟩ : ∃ y, xs[(lo + hi) / 2] = y := ⟨_, rfl⟩
      rw [hy] at e0 hy1
      have HY := hide hy1
      clear hy hy1 hml hc
      by_cases hlt2 : y < x
      · have C := less_any wr y x
        rw [show decide (y < x) = true by simp [hlt2]] at C
        have C1 := hide C
        have hlx : (lo + hi) / 2 < idx := by
          rcases Nat.lt_trichotomy ((lo + hi) / 2) idx with h5 | h5 | h5
          · exact h5
          · exfalso
            have h6 := HX.out
            rw [← h5, HY.out] at h6
            injection h6 with h6
            omega
          · have := HM.out _ _ _ _ h5 HX.out HY.out
            omega
        have HLX := hide hlx
        clear C hlt2 hlx
        go_wp2_with fail
        refine C1.out.mono ?_
        rintro e w1 ⟨rfl, rfl⟩
        go_wp2_with fail
        have hlx := HLX.out
        go_roundw
        case rel => exact ⟨(lo + hi) / 2 + 1, hi, by omega, by omega, by omega, by first | go_num | (congr 1; omega), rfl, by trivial⟩
        case measure => simp [intOf]; omega
      · have C := less_any wr y x
        rw [show decide (y < x) = false by simp [hlt2]] at C
        have C1 := hide C
        have hlx : idx ≤ (lo + hi) / 2 := by
          rcases Nat.lt_or_ge ((lo + hi) / 2) idx with h5 | h5
          · have := HM.out _ _ _ _ h5 HY.out HX.out
            omega
          · exact h5
        have HLX := hide hlx
        clear C hlt2 hlx
        go_wp2_with fail
        refine C1.out.mono ?_
        rintro e w1 ⟨rfl, rfl⟩
        go_wp2_with fail
        have hlx := HLX.out
        go_roundw
        case rel => exact ⟨lo, (lo + hi) / 2, by omega, by omega, by omega, rfl, by first | go_num | (congr 1; omega), by trivial⟩
        case measure => simp [intOf]; omega
    · obtain rfl : lo = idx := by omega
      obtain rfl : hi = lo := by omega
      have e0 := hc hi (.int .i64 x) (by simp [ints, HX.out])
      clear hc
      go_wp2_with fail
      refine bodyPost_ret (v := .tuple #[.int .i64 hi, .bool true]) (by simp [results, Try.results78, go_sem]) rfl ⟨rfl, rfl⟩

set_option maxHeartbeats 4000000 in
theorem place_any (w : World) (A : Option Addr) (n c idx : Nat) (xs : List Int) (x : Int) (hn : n ≤ 1000) (h : Rd w (fun _ => True) 1 A n (ints xs)) (hidx : idx < n) (hx : xs[idx]? = some x) (hm : ∀ (i j : Nat) (a b : Int), i < j → xs[i]? = some a → xs[j]? = some b → a < b) :
    Calls Try.prog 110 #[.slice A n c, .int .i64 x] w fun e w' => e = .returned (.int .i64 idx) ∧ w' = w := by
  have HL := hide (show xs.length = n by have := h.1; simpa using this)
  have HX := hide hx
  have HM := hide hm
  obtain ⟨ad, hA, _, _, hc⟩ := h.2 (by omega)
  subst hA
  clear hx hm
  go_enter Try.func110, Try.ntmps110
  go_wp2_with fail
  go_loopw [5] (fun i wr => ∃ k : Nat, k ≤ idx ∧ i = .int .i64 k ∧ wr = w) (fun i _ => n - (intOf i).toNat)
  case atStart => exact ⟨0, by omega, rfl, rfl⟩
  case round =>
    obtain ⟨k, hk, rfl, rfl⟩ := hrel
    have hkn : k < n := by omega
    by_cases hlt : k < idx
    · have hkl : k < xs.length := by rw [HL.out]; omega
      have e0 := hc k (.int .i64 xs[k]) (by simp [ints, List.getElem?_eq_getElem hkl])
      have hlx := HM.out _ _ _ _ hlt (List.getElem?_eq_getElem hkl) HX.out
      obtain ⟨y, hy⟩ : ∃ y, xs[k] = y := ⟨_, rfl⟩
      rw [hy] at e0 hlx
      have k1 : (y == x) = false := by rw [beq_eq_false_iff_ne]; omega
      clear hy hc hlx
      go_wp2_with fail
      go_roundw
      case rel => exact ⟨k + 1, by omega, by go_num, by trivial⟩
      case measure => simp [intOf]; omega
    · obtain rfl : k = idx := by omega
      have e0 := hc k (.int .i64 x) (by simp [ints, HX.out])
      clear hc
      go_wp2_with fail
      go_ret
      first | exact ⟨rfl, rfl⟩ | exact ⟨rfl, trivial⟩ | exact rfl
end Go.Proofs.Ytpbafmdebflbpaa
