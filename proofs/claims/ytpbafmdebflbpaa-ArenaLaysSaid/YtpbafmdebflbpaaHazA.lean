/- hazard: the small functions. -/
import Derived.Test.YtpbafmdebflbpaaSep
namespace Go.Proofs.Ytpbafmdebflbpaa
open Go.RowKit

theorem sInt : SliceT Try.prog 40 3 1 8 := SliceT.mk_ Try.underlying40 (z := .int .i64 0) (by kernel_rfl) rfl (by omega)
theorem sErr : SliceT Try.prog 38 25 1 8 := SliceT.mk_ Try.underlying38 (z := .int .i64 0) (by kernel_rfl) rfl (by omega)
theorem sFate : SliceT Try.prog 39 105 2 16 := SliceT.mk_ Try.underlying39 (z := .agg #[.int .i64 0, .int .i64 0]) (by kernel_rfl) rfl (by omega)

/-- A list of numbers as cells. -/
abbrev ints (l : List Int) : List Value := l.map (Value.int .i64)
def fates (l : List (Int × Int)) : List Value := l.flatMap fun p => [.int .i64 p.1, .int .i64 p.2]

theorem fates_length (l : List (Int × Int)) : (fates l).length = l.length * 2 := by
  unfold fates; induction l with
  | nil => rfl
  | cons a l ih => simp [List.flatMap_cons] at ih ⊢; omega
theorem fates_0 (l : List (Int × Int)) (k : Nat) (h : k < l.length) : (fates l)[k * 2]? = some (.int .i64 l[k].1) := by
  unfold fates
  induction l generalizing k with
  | nil => simp at h
  | cons a l ih =>
    cases k with
    | zero => rfl
    | succ k => 
      have h' : k < l.length := by simpa using h
      have := ih k h'
      simp only [List.flatMap_cons]
      rw [show (k + 1) * 2 = k * 2 + 2 from by omega]
      simpa using this
theorem fates_1 (l : List (Int × Int)) (k : Nat) (h : k < l.length) : (fates l)[k * 2 + 1]? = some (.int .i64 l[k].2) := by
  unfold fates
  induction l generalizing k with
  | nil => simp at h
  | cons a l ih =>
    cases k with
    | zero => rfl
    | succ k => 
      have h' : k < l.length := by simpa using h
      have := ih k h'
      simp only [List.flatMap_cons]
      rw [show (k + 1) * 2 + 1 = k * 2 + 1 + 2 from by omega]
      simpa using this
theorem ret_bool {a b : Bool} (h : a = b) : Ending.returned (.bool a) = .returned (.bool b) := by rw [h]
theorem ret_int {k : IntKind} {a b : Int} (h : a = b) : Ending.returned (.int k a) = .returned (.int k b) := by rw [h]
def RetB (b : Bool) (w : World) : Ending → World → Prop := fun e w' => e = .returned (.bool b) ∧ w = w'

set_option maxHeartbeats 400000 in
theorem has_any (w : World) (D : Nat → Prop) (A : Option Addr) (n c : Nat) (xs : List Int) (x : Int) (hn : n ≤ 9223372036854775807)
    (h : Rd w D 1 A n (ints xs)) :
    Calls Try.prog 56 #[.slice A n c, .int .i64 x] w (RetB (decide (x ∈ xs)) w) := by
  have hl : xs.length = n := by have := h.1; simpa using this
  have HL := hide hl
  clear hl
  go_enter Try.func56, Try.ntmps56
  go_wp2
  go_loop [6, 9] (fun _ i => ∃ k : Nat, k ≤ n ∧ i = .int .i64 k ∧ Hid (x ∉ xs.take k)) (fun _ i => n - (intOf i).toNat)
  case atStart => exact ⟨0, by omega, rfl, by simp [Hid]⟩
  case round =>
    obtain ⟨k, hk, rfl, hnot⟩ := hrel
    by_cases hlt : k < n
    · obtain ⟨ad, rfl, hb, _, hc⟩ := h.at_ hlt
      have hkl : k < xs.length := by rw [HL.out]; exact hlt
      have hcell := hc (.int .i64 xs[k]) (by simp [List.getElem?_eq_getElem hkl])
      clear hc
      by_cases hx : x = xs[k]
      · have hx2 : (x == xs[k]) = true := by simp [hx]
        have HX := hide hx
        clear hx
        go_wp2
        go_ret
        exact ⟨ret_bool (show true = decide (x ∈ xs) from by rw [HX.out]; simp), rfl⟩
      · have hx2 : (x == xs[k]) = false := by simp [hx]
        have HX := hide hx
        clear hx
        go_wp2
        go_round
        case rel => exact ⟨k + 1, by omega, by go_num, by
          have h1 := hnot.out
          have h2 := HX.out
          show x ∉ _
          rw [List.take_succ_eq_append_getElem hkl]; simp only [List.mem_append, List.mem_singleton, h1, h2, or_self, not_false_eq_true]⟩
        case measure => simp [intOf]; omega
    · go_wp2
      go_ret
      have h1 := hnot.out
      rw [List.take_of_length_le (by rw [HL.out]; omega)] at h1
      exact ⟨ret_bool (show false = decide (x ∈ xs) from by simpa using h1), rfl⟩

set_option maxHeartbeats 400000 in
theorem ints_same (w : World) (D D' : Nat → Prop) (A A' : Option Addr) (n c c' : Nat) (xs : List Int) (hn : n ≤ 9223372036854775807)
    (h : Rd w D 1 A n (ints xs)) (h' : Rd w D' 1 A' n (ints xs)) :
    Calls Try.prog 41 #[.slice A n c, .slice A' n c'] w fun e w' => e = .returned (.bool true) ∧ Below w.heap.size w w' := by
  have hl : xs.length = n := by have := h.1; simpa using this
  have HL := hide hl
  clear hl
  go_enter Try.func41, Try.ntmps41
  go_wp2
  go_loopw [5] (fun i wr => ∃ k : Nat, k ≤ n ∧ i = .int .i64 k ∧ Below w.heap.size w wr) (fun i _ => n - (intOf i).toNat)
  case atStart => exact ⟨0, by omega, rfl, Below.refl _ _⟩
  case round =>
    obtain ⟨k, hk, rfl, hb⟩ := hrel
    by_cases hlt : k < n
    · obtain ⟨ad, rfl, _, _, hc⟩ := (h.below hb).at_ hlt
      obtain ⟨ad', rfl, _, _, hc'⟩ := (h'.below hb).at_ hlt
      have hkl : k < xs.length := by rw [HL.out]; exact hlt
      have hcell := hc (.int .i64 xs[k]) (by simp [List.getElem?_eq_getElem hkl])
      have hcell' := hc' (.int .i64 xs[k]) (by simp [List.getElem?_eq_getElem hkl])
      clear hc hc'
      go_wp2
      go_quiet (fail)
      go_wp2
      go_roundw
      case rel => exact ⟨k + 1, by omega, by go_num, below_drewN hb _⟩
      case measure => simp [intOf]; omega
    · go_wp2
      go_ret
      exact ⟨rfl, hb⟩

set_option maxHeartbeats 400000 in
theorem freeings_same (w : World) (D1 D2 D3 D1' D2' D3' : Nat → Prop) (A1 A2 A3 A1' A2' A3' : Option Addr) (n1 n2 n3 c1 c2 c3 c1' c2' c3' : Nat) (codes waits : List Int) (freed : List (Int × Int)) (hn1 : n1 ≤ 4611686018427387903) (hn2 : n2 ≤ 4611686018427387903) (hn3 : n3 ≤ 4611686018427387903)
    (h1 : Rd w D1 1 A1 n1 (ints codes)) (h2 : Rd w D2 2 A2 n2 (fates freed)) (h3 : Rd w D3 1 A3 n3 (ints waits))
    (h1' : Rd w D1' 1 A1' n1 (ints codes)) (h2' : Rd w D2' 2 A2' n2 (fates freed)) (h3' : Rd w D3' 1 A3' n3 (ints waits)) :
    Calls Try.prog 24 #[.agg #[.slice A1 n1 c1, .slice A2 n2 c2, .slice A3 n3 c3], .agg #[.slice A1' n1 c1', .slice A2' n2 c2', .slice A3' n3 c3']] w fun e w' => e = .returned (.bool true) ∧ Below w.heap.size w w' := by
  go_enter Try.func24, Try.ntmps24
  go_wp2
  go_loopw [5] (fun i wr => ∃ k : Nat, k ≤ n1 ∧ i = .int .i64 k ∧ Sep No w wr [blkI w.heap.size 42 #[.slice A1 n1 c1, .slice A2 n2 c2, .slice A3 n3 c3], blkI (w.heap.size + 1) 42 #[.slice A1' n1 c1', .slice A2' n2 c2', .slice A3' n3 c3']]) (fun i _ => n1 - (intOf i).toNat)
  case atStart => exact ⟨0, by omega, rfl, ((Sep.nil No w).blkAt _ _ rfl).blkAt _ _ (by simp)⟩
  case round =>
    obtain ⟨k, hk, rfl, hS⟩ := hrel
    obtain ⟨p1, p2, p3, p4⟩ := hS.rules 0 rfl
    obtain ⟨q1, q2, q3, q4⟩ := hS.rules 1 rfl
    have hl : codes.length = n1 := by have := h1.1; simpa using this
    have HL := hide hl
    clear hl
    by_cases hlt : k < n1
    · obtain ⟨ad, rfl, _, _, hc⟩ := (h1.below hS.below_).at_ hlt
      obtain ⟨ad', rfl, _, _, hc'⟩ := (h1'.below hS.below_).at_ hlt
      have hkl : k < codes.length := by rw [HL.out]; exact hlt
      have hcell := hc (.int .i64 codes[k]) (by simp [List.getElem?_eq_getElem hkl])
      have hcell' := hc' (.int .i64 codes[k]) (by simp [List.getElem?_eq_getElem hkl])
      clear hc hc'
      go_wp2
      go_quiet (fail)
      go_wp2
      go_roundw
      case rel => exact ⟨k + 1, by omega, by go_num, hS.drewN _⟩
      case measure => simp [intOf]; omega
    · go_wp2
      go_loopw [6] (fun i wr => ∃ k : Nat, k ≤ n2 ∧ i = .int .i64 k ∧ Sep No w wr [blkI w.heap.size 42 #[.slice A1 n1 c1, .slice A2 n2 c2, .slice A3 n3 c3], blkI (w.heap.size + 1) 42 #[.slice A1' n1 c1', .slice A2' n2 c2', .slice A3' n3 c3']]) (fun i _ => n2 - (intOf i).toNat)
      case atStart => exact ⟨0, by omega, rfl, hS⟩
      case round =>
        clear p1 p2 p3 p4 q1 q2 q3 q4 hS
        obtain ⟨k, hk, rfl, hS⟩ := hrel
        obtain ⟨p1, p2, p3, p4⟩ := hS.rules 0 rfl
        obtain ⟨q1, q2, q3, q4⟩ := hS.rules 1 rfl
        have hl : freed.length = n2 := by have := h2.1; rw [fates_length] at this; omega
        have HL2 := hide hl
        clear hl
        by_cases hlt : k < n2
        · obtain ⟨ad, rfl, _, _, hc, hd⟩ := (h2.below hS.below_).atN hlt
          obtain ⟨ad', rfl, _, _, hc', hd'⟩ := (h2'.below hS.below_).atN hlt
          have hkl : k < freed.length := by rw [HL2.out]; exact hlt
          have f0 := fates_0 freed k hkl
          have f1 := fates_1 freed k hkl
          have e0 := hc _ f0
          have e1 := hd 0 _ f1
          have g0 := hc' _ f0
          have g1 := hd' 0 _ f1
          clear hc hc' hd hd' f0 f1
          go_wp2
          go_quiet (fail)
          go_wp2
          go_roundw
          case rel => exact ⟨k + 1, by omega, by go_num, hS.drewN _⟩
          case measure => simp [intOf]; omega
        · go_wp2_with fail
          refine (ints_same _ _ _ _ _ _ _ _ waits (by omega) (h3.below hS.below_) (h3'.below hS.below_)).mono ?_
          rintro e w1 ⟨rfl, hb1⟩
          go_wp2
          go_ret
          exact ⟨rfl, hS.below_.trans (hb1.mono hS.bel.size)⟩
end Go.Proofs.Ytpbafmdebflbpaa
