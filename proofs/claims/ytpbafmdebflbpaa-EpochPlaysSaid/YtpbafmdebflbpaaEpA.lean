/- epoch: what the memory holds; the test of a thread; slices.ContainsFunc over it. -/
import Derived.Test.YtpbafmdebflbpaaSep
import Derived.Test.YtpbafmdebflbpaaHazA
namespace Go.Proofs.Ytpbafmdebflbpaa
open Go.RowKit

structure Ez where
  gw : Nat
  ep : Int
  At : Option Addr
  nt : Nat
  ct : Nat
  Aw : Option Addr
  nw : Nat
  cw : Nat
  Af : Option Addr
  nf : Nat
  cf : Nat
  ths : List Int
  waits : List (Int × Int)
  freed : List (Int × Int)
def Ez.cells (s : Ez) : Array Value := #[.int .i64 s.ep, .slice s.At s.nt s.ct, .slice s.Aw s.nw s.cw, .slice s.Af s.nf s.cf]
def Ez.items (s : Ez) : List Item := [blkI s.gw 130 s.cells, rowI 3 1 s.At s.nt s.ct (ints s.ths), rowI 134 2 s.Aw s.nw s.cw (fates s.waits), rowI 105 2 s.Af s.nf s.cf (fates s.freed)]
def Ez.item (s : Ez) : Item := allI s.items

/-- A thread that has not come to the epoch. -/
def late (ep x : Int) : Bool := x != -1 && x != ep

set_option maxHeartbeats 400000 in
theorem estep1_any (w : World) (b gw : Nat) (x ep : Int) (cs : Array Value) (h : Blk w gw 130 cs) (h0 : cs[0]? = some (.int .i64 ep)) (hb : Blk w b 126 #[.pointer (some ⟨gw, 0, none⟩)]) :
    Calls Try.prog 104 #[.int .i64 x, .pointer (some ⟨b, 0, none⟩)] w fun e w' => e = .returned (.bool (late ep x)) ∧ Chg No w w' := by
  obtain ⟨p1, p2, p3⟩ := h.rules
  obtain ⟨q1, q2, q3⟩ := hb.rules
  have p0 : w.cell? ⟨gw, 0, none⟩ = some (.int .i64 ep) := by rw [p1]; exact h0
  clear p1 h0
  by_cases hx : x = -1
  · subst hx
    go_enter Try.func104, Try.ntmps104
    go_wp2_with fail
    go_ret
    exact ⟨rfl, Chg.refl _ _⟩
  · have hx2 : (x != -1) = true := by simp [hx]
    have hx3 : late ep x = (x != ep) := by unfold late; rw [hx2]; rfl
    rw [hx3]
    clear hx hx3
    go_enter Try.func104, Try.ntmps104
    go_wp2_with fail
    go_ret
    exact ⟨rfl, Chg.refl _ _⟩

set_option maxHeartbeats 400000 in
theorem index_late (w : World) (D : Nat → Prop) (A : Option Addr) (n c b gw : Nat) (ep : Int) (cs : Array Value) (ths : List Int) (hn : n ≤ 100) (h : Rd w D 1 A n (ints ths)) (hG : Blk w gw 130 cs) (h0 : cs[0]? = some (.int .i64 ep)) (hb : Blk w b 126 #[.pointer (some ⟨gw, 0, none⟩)]) :
    Calls Try.prog 117 #[.slice A n c, .func (.func 104) #[] #[.pointer (some ⟨b, 0, none⟩)]] w fun e w' => (∃ r : Int, e = .returned (.int .i64 r) ∧ (0 ≤ r ↔ ∃ x ∈ ths, late ep x = true)) ∧ Chg No w w' := by
  have hl : ths.length = n := by have := h.1; simpa using this
  have HL := hide hl
  clear hl
  go_enter Try.func117, Try.ntmps117
  go_wp2_with fail
  go_loopw [5, 8] (fun _ i wr => ∃ k : Nat, k ≤ n ∧ i = .int .i64 k ∧ Hid (∀ t ∈ ths.take k, late ep t = false) ∧ Chg No w wr) (fun _ i _ => n - (intOf i).toNat)
  case atStart => exact ⟨0, by omega, rfl, by simp [Hid], Chg.refl _ _⟩
  case round =>
    obtain ⟨k, hk, rfl, hnot, hC⟩ := hrel
    by_cases hlt : k < n
    · obtain ⟨ad, rfl, _, _, hc⟩ := (h.chg hC (fun _ h => h.elim)).at_ hlt
      have hkl : k < ths.length := by rw [HL.out]; exact hlt
      have hcell := hc (.int .i64 ths[k]) (by simp [ints, List.getElem?_eq_getElem hkl])
      have hB := hG.chg hC (fun h => h)
      have hX := hb.chg hC (fun h => h)
      clear hc
      go_wp2_with fail
      refine (estep1_any _ _ _ _ ep _ hB h0 hX).mono ?_
      rintro e w1 ⟨rfl, hC1⟩
      cases hq : late ep ths[k] with
      | true =>
        have HQ := hide hq
        clear hq
        go_wp2_with fail
        go_ret
        exact ⟨⟨k, rfl, ⟨fun _ => ⟨ths[k], List.getElem_mem hkl, HQ.out⟩, fun _ => by omega⟩⟩, hC.trans hC1 (fun _ h => .inl h)⟩
      | false =>
        have HQ := hide hq
        clear hq
        go_wp2_with fail
        go_roundw
        case rel => exact ⟨k + 1, by omega, by go_num, by
          have h1 := hnot.out
          have h2 := HQ.out
          show ∀ t ∈ ths.take (k + 1), late ep t = false
          rw [List.take_succ_eq_append_getElem hkl]
          intro t ht
          rcases List.mem_append.1 ht with h3 | h3
          · exact h1 t h3
          · simp only [List.mem_singleton] at h3; subst h3; exact h2, hC.trans hC1 (fun _ h => .inl h)⟩
        case measure => simp [intOf]; omega
    · go_wp2_with fail
      go_ret
      have h1 := hnot.out
      rw [List.take_of_length_le (by rw [HL.out]; omega)] at h1
      exact ⟨⟨-1, rfl, ⟨fun h => by omega, fun ⟨t, ht, htx⟩ => by rw [h1 t ht] at htx; cases htx⟩⟩, hC⟩

set_option maxHeartbeats 400000 in
theorem contains_late (w : World) (D : Nat → Prop) (A : Option Addr) (n c b gw : Nat) (ep : Int) (cs : Array Value) (ths : List Int) (hn : n ≤ 100) (h : Rd w D 1 A n (ints ths)) (hG : Blk w gw 130 cs) (h0 : cs[0]? = some (.int .i64 ep)) (hb : Blk w b 126 #[.pointer (some ⟨gw, 0, none⟩)]) :
    Calls Try.prog 94 #[.slice A n c, .func (.func 104) #[] #[.pointer (some ⟨b, 0, none⟩)]] w fun e w' => e = .returned (.bool (ths.any (late ep))) ∧ Chg No w w' := by
  go_enter Try.func94, Try.ntmps94
  go_wp2_with fail
  refine (index_late w D A n c b gw ep cs ths hn h hG h0 hb).mono ?_
  rintro e w1 ⟨⟨r, rfl, hr⟩, hC⟩
  have hb : ths.any (late ep) = decide (0 ≤ r) := by
    rw [Bool.eq_iff_iff]; simp only [List.any_eq_true, decide_eq_true_eq]; exact hr.symm
  have HB := hide hb
  clear hb hr
  go_wp2_with fail
  go_ret
  exact ⟨ret_bool HB.out.symm, hC⟩
end Go.Proofs.Ytpbafmdebflbpaa
