/- hazard: does some thread guard an item? -/
import Derived.Test.YtpbafmdebflbpaaHazA
namespace Go.Proofs.Ytpbafmdebflbpaa
open Go.RowKit

/-- A thread as it lies: its block, what it guards, what waits with it. -/
structure Th where
  g : Nat
  gd : Int
  A : Option Addr
  n : Nat
  c : Nat
  ws : List Int
def Th.cells (t : Th) : Array Value := #[.int .i64 t.gd, .slice t.A t.n t.c]
abbrev Th.ptr (t : Th) : Value := .pointer (some ⟨t.g, 0, none⟩)

set_option maxHeartbeats 400000 in
theorem guard1_any (w : World) (g b : Nat) (gd x : Int) (v : Value) (h : Blk w g 100 #[.int .i64 gd, v]) (hx : Blk w b 3 #[.int .i64 x]) :
    Calls Try.prog 128 #[.pointer (some ⟨g, 0, none⟩), .pointer (some ⟨b, 0, none⟩)] w fun e w' => e = .returned (.bool (gd == x)) ∧ Chg No w w' := by
  obtain ⟨p1, p2, p3⟩ := h.rules
  obtain ⟨q1, q2, q3⟩ := hx.rules
  go_enter Try.func128, Try.ntmps128
  go_wp2
  go_quiet (fail)
  go_wp2
  go_ret
  exact ⟨rfl, (Chg.refl _ _).drewN _⟩

def IdxOf (ths : List Th) (x : Int) (w : World) : Ending → World → Prop := fun e w' => (∃ r : Int, e = .returned (.int .i64 r) ∧ (0 ≤ r ↔ ∃ t ∈ ths, t.gd = x)) ∧ Chg No w w'

set_option maxHeartbeats 400000 in
theorem index_th (w : World) (D : Nat → Prop) (A : Option Addr) (n c b : Nat) (ths : List Th) (x : Int) (hn : n ≤ 100) (h : Rd w D 1 A n (ths.map Th.ptr)) (hT : ∀ t ∈ ths, Blk w t.g 100 t.cells) (hx : Blk w b 3 #[.int .i64 x]) :
    Calls Try.prog 129 #[.slice A n c, .func (.func 128) #[] #[.pointer (some ⟨b, 0, none⟩)]] w (IdxOf ths x w) := by
  have hl : ths.length = n := by have := h.1; simpa using this
  have HL := hide hl
  clear hl
  go_enter Try.func129, Try.ntmps129
  go_wp2_with fail
  go_loopw [5, 8] (fun _ i wr => ∃ k : Nat, k ≤ n ∧ i = .int .i64 k ∧ Hid (∀ t ∈ ths.take k, t.gd ≠ x) ∧ Chg No w wr) (fun _ i _ => n - (intOf i).toNat)
  case atStart => exact ⟨0, by omega, rfl, by simp [Hid], Chg.refl _ _⟩
  case round =>
    obtain ⟨k, hk, rfl, hnot, hC⟩ := hrel
    by_cases hlt : k < n
    · obtain ⟨ad, rfl, _, _, hc⟩ := (h.chg hC (fun _ h => h.elim)).at_ hlt
      have hkl : k < ths.length := by rw [HL.out]; exact hlt
      have hcell := hc ths[k].ptr (by simp [List.getElem?_eq_getElem hkl])
      have hB := (hT ths[k] (List.getElem_mem hkl)).chg hC (fun h => h)
      have hX := hx.chg hC (fun h => h)
      clear hc
      go_wp2_with fail
      refine (guard1_any _ _ _ _ _ _ hB hX).mono ?_
      rintro e w1 ⟨rfl, hC1⟩
      by_cases hq : ths[k].gd = x
      · have hq2 : (ths[k].gd == x) = true := by simp [hq]
        have HQ := hide hq
        clear hq
        go_wp2_with fail
        go_ret
        exact ⟨⟨k, rfl, ⟨fun _ => ⟨ths[k], List.getElem_mem hkl, HQ.out⟩, fun _ => by omega⟩⟩, hC.trans hC1 (fun _ h => .inl h)⟩
      · have hq2 : (ths[k].gd == x) = false := by simp [hq]
        have HQ := hide hq
        clear hq
        go_wp2_with fail
        go_roundw
        case rel => exact ⟨k + 1, by omega, by go_num, by
          have h1 := hnot.out
          have h2 := HQ.out
          show ∀ t ∈ ths.take (k + 1), t.gd ≠ x
          rw [List.take_succ_eq_append_getElem hkl]
          intro t ht
          rcases List.mem_append.1 ht with h3 | h3
          · exact h1 t h3
          · simp only [List.mem_singleton] at h3; subst h3; exact h2, hC.trans hC1 (fun _ h => .inl h)⟩
        case measure => simp [intOf]; omega
    · go_wp2_with fail
      go_ret
      have h1 := hnot.out
      rw [List.take_of_length_le (by rw [HL.out]; omega)] at h1
      exact ⟨⟨-1, rfl, ⟨fun h => by omega, fun ⟨t, ht, htx⟩ => absurd htx (h1 t ht)⟩⟩, hC⟩

def isGuarded (ths : List Th) (x : Int) : Bool := ths.any fun t => t.gd == x

set_option maxHeartbeats 400000 in
theorem contains_th (w : World) (D : Nat → Prop) (A : Option Addr) (n c b : Nat) (ths : List Th) (x : Int) (hn : n ≤ 100) (h : Rd w D 1 A n (ths.map Th.ptr)) (hT : ∀ t ∈ ths, Blk w t.g 100 t.cells) (hx : Blk w b 3 #[.int .i64 x]) :
    Calls Try.prog 127 #[.slice A n c, .func (.func 128) #[] #[.pointer (some ⟨b, 0, none⟩)]] w fun e w' => e = .returned (.bool (isGuarded ths x)) ∧ Chg No w w' := by
  go_enter Try.func127, Try.ntmps127
  go_wp2_with fail
  refine (index_th w D A n c b ths x hn h hT hx).mono ?_
  rintro e w1 ⟨⟨r, rfl, hr⟩, hC⟩
  have hb : isGuarded ths x = decide (0 ≤ r) := by
    rw [Bool.eq_iff_iff]; simp only [isGuarded, List.any_eq_true, beq_iff_eq, decide_eq_true_eq]; exact hr.symm
  have HB := hide hb
  clear hb hr
  go_wp2_with fail
  go_ret
  exact ⟨ret_bool HB.out.symm, hC⟩

set_option maxHeartbeats 400000 in
theorem guarded_any (w : World) (D : Nat → Prop) (A : Option Addr) (n c gw : Nat) (ths : List Th) (x : Int) (hn : n ≤ 100) (h : Rd w D 1 A n (ths.map Th.ptr)) (hT : ∀ t ∈ ths, Blk w t.g 100 t.cells) (hlt : gw < w.heap.size)
    (hw : w.cell? ⟨gw, 0, none⟩ = some (.slice A n c)) :
    Calls Try.prog 119 #[.pointer (some ⟨gw, 0, none⟩), .int .i64 x] w fun e w' => e = .returned (.bool (isGuarded ths x)) ∧ Chg No w w' := by
  go_enter Try.func119, Try.ntmps119
  go_wp2_with fail
  refine (contains_th _ D A n c _ ths x hn (h.below ((Below.refl _ w).alloc (Nat.le_refl _) _)) (fun t ht => (hT t ht).alloc _) (Blk.new w 3 #[.int .i64 x])).mono ?_
  rintro e w1 ⟨rfl, hC⟩
  go_wp2_with fail
  go_ret
  exact ⟨rfl, ((Chg.refl _ w).alloc _).trans hC (fun _ h => .inl h)⟩
end Go.Proofs.Ytpbafmdebflbpaa
