/- numbers: ref.Has, ref.Ints. -/
import Derived.Test.YtpbafmdebflbpaaSep
namespace Go.Proofs.Ytpbafmdebflbpaa
open Go.RowKit

theorem sInt : SliceT Try.prog 40 3 1 8 := SliceT.mk_ Try.underlying40 (z := .int .i64 0) (by kernel_rfl) rfl (by omega)

/-- A list of numbers as cells. -/
abbrev ints (l : List Int) : List Value := l.map (Value.int .i64)
theorem ret_bool {a b : Bool} (h : a = b) : Ending.returned (.bool a) = .returned (.bool b) := by rw [h]
theorem ret_int {k : IntKind} {a b : Int} (h : a = b) : Ending.returned (.int k a) = .returned (.int k b) := by rw [h]
def RetB (b : Bool) (w : World) : Ending → World → Prop := fun e w' => e = .returned (.bool b) ∧ w = w'

set_option maxHeartbeats 400000 in
theorem has_any (w : World) (D : Nat → Prop) (A : Option Addr) (n c : Nat) (xs : List Int) (x : Int) (hn : n ≤ 9223372036854775807)
    (h : Rd w D 1 A n (ints xs)) :
    Calls Try.prog 56 #[.slice A n c, .int .i64 x] w (RetB (decide (x ∈ xs)) w) := by
  have hl : xs.length = n := by have := h.1; simpa using this
  have HL := hide hl
  clear hl
  go_enter Try.func56, Try.ntmps56
  go_wp2
  go_loop [6, 9] (fun _ i => ∃ k : Nat, k ≤ n ∧ i = .int .i64 k ∧ Hid (x ∉ xs.take k)) (fun _ i => n - (intOf i).toNat)
  case atStart => exact ⟨0, by omega, rfl, by simp [Hid]⟩
  case round =>
    obtain ⟨k, hk, rfl, hnot⟩ := hrel
    by_cases hlt : k < n
    · obtain ⟨ad, rfl, hb, _, hc⟩ := h.at_ hlt
      have hkl : k < xs.length := by rw [HL.out]; exact hlt
      have hcell := hc (.int .i64 xs[k]) (by simp [List.getElem?_eq_getElem hkl])
      clear hc
      by_cases hx : x = xs[k]
      · have hx2 : (x == xs[k]) = true := by simp [hx]
        have HX := hide hx
        clear hx
        go_wp2
        go_ret
        exact ⟨ret_bool (show true = decide (x ∈ xs) from by rw [HX.out]; simp), rfl⟩
      · have hx2 : (x == xs[k]) = false := by simp [hx]
        have HX := hide hx
        clear hx
        go_wp2
        go_round
        case rel => exact ⟨k + 1, by omega, by go_num, by
          have h1 := hnot.out
          have h2 := HX.out
          show x ∉ _
          rw [List.take_succ_eq_append_getElem hkl]; simp only [List.mem_append, List.mem_singleton, h1, h2, or_self, not_false_eq_true]⟩
        case measure => simp [intOf]; omega
    · go_wp2
      go_ret
      have h1 := hnot.out
      rw [List.take_of_length_le (by rw [HL.out]; omega)] at h1
      exact ⟨ret_bool (show false = decide (x ∈ xs) from by simpa using h1), rfl⟩

set_option maxHeartbeats 400000 in
theorem ints_same (w : World) (D D' : Nat → Prop) (A A' : Option Addr) (n c c' : Nat) (xs : List Int) (hn : n ≤ 9223372036854775807)
    (h : Rd w D 1 A n (ints xs)) (h' : Rd w D' 1 A' n (ints xs)) :
    Calls Try.prog 41 #[.slice A n c, .slice A' n c'] w fun e w' => e = .returned (.bool true) ∧ Below w.heap.size w w' := by
  have hl : xs.length = n := by have := h.1; simpa using this
  have HL := hide hl
  clear hl
  go_enter Try.func41, Try.ntmps41
  go_wp2
  go_loopw [5] (fun i wr => ∃ k : Nat, k ≤ n ∧ i = .int .i64 k ∧ Below w.heap.size w wr) (fun i _ => n - (intOf i).toNat)
  case atStart => exact ⟨0, by omega, rfl, Below.refl _ _⟩
  case round =>
    obtain ⟨k, hk, rfl, hb⟩ := hrel
    by_cases hlt : k < n
    · obtain ⟨ad, rfl, _, _, hc⟩ := (h.below hb).at_ hlt
      obtain ⟨ad', rfl, _, _, hc'⟩ := (h'.below hb).at_ hlt
      have hkl : k < xs.length := by rw [HL.out]; exact hlt
      have hcell := hc (.int .i64 xs[k]) (by simp [List.getElem?_eq_getElem hkl])
      have hcell' := hc' (.int .i64 xs[k]) (by simp [List.getElem?_eq_getElem hkl])
      clear hc hc'
      go_wp2
      go_quiet (fail)
      go_wp2
      go_roundw
      case rel => exact ⟨k + 1, by omega, by go_num, below_drewN hb _⟩
      case measure => simp [intOf]; omega
    · go_wp2
      go_ret
      exact ⟨rfl, hb⟩

end Go.Proofs.Ytpbafmdebflbpaa
