/- epoch: what is old goes; slices.DeleteFunc over it. -/
import Derived.Test.YtpbafmdebflbpaaEpA
namespace Go.Proofs.Ytpbafmdebflbpaa
open Go.RowKit

theorem efates_app (l : List (Int × Int)) (p : Int × Int) : fates (l ++ [p]) = fates l ++ [.int .i64 p.1, .int .i64 p.2] := by simp [fates]
/-- What is freed when the epoch comes. -/
def eold (ep : Int) (x : Int × Int) : Bool := decide (x.2 ≤ ep - 2)
def egone (ep by_ : Int) (l : List (Int × Int)) : List (Int × Int) := (l.filter (eold ep)).map fun x => (x.1, by_)
/-- What a deed of the clearing up has in hand. -/
def Ez.dl (s : Ez) (b b2 : Nat) (by_ : Int) : List Item := [blkI s.gw 130 s.cells, rowI 105 2 s.Af s.nf s.cf (fates s.freed), blkI b 126 #[.pointer (some ⟨s.gw, 0, none⟩)], blkI b2 3 #[.int .i64 by_]]
theorem Ez.set3 (s : Ez) (A : Option Addr) (n c : Nat) (l : List (Int × Int)) : s.cells.setIfInBounds 3 (.slice A n c) = Ez.cells { s with Af := A, nf := n, cf := c, freed := l } := by
  unfold Ez.cells; rfl

section
variable {F : Nat → Prop} {W w : World} {s : Ez} {b b2 : Nat} {by_ : Int}
theorem Ez.dfacts {l : List Item} (h : Sep F W w (s.dl b b2 by_ ++ l)) :
    w.cell? ⟨s.gw, 0, none⟩ = some (.int .i64 s.ep) ∧ w.cell? ⟨s.gw, 3, none⟩ = some (.slice s.Af s.nf s.cf) ∧ (∀ i, w.frozen? ⟨s.gw, i, none⟩ = false) ∧ s.gw < w.heap.size ∧
    w.cell? ⟨b, 0, none⟩ = some (.pointer (some ⟨s.gw, 0, none⟩)) ∧ b < w.heap.size ∧ w.cell? ⟨b2, 0, none⟩ = some (.int .i64 by_) ∧ b2 < w.heap.size ∧ s.nf = s.freed.length := by
  have h0 := h.rules 0 (g := s.gw) (t := 130) (cs := s.cells) rfl
  have h2 := h.rules 2 (g := b) (t := 126) (cs := #[.pointer (some ⟨s.gw, 0, none⟩)]) rfl
  have h3 := h.rules 3 (g := b2) (t := 3) (cs := #[.int .i64 by_]) rfl
  have h1 := (h.rd_ 1 (A := s.Af) (n := s.nf) (c := s.cf) (xs := fates s.freed) (e := 105) (size := 2) rfl).1
  rw [fates_length] at h1
  exact ⟨by rw [h0.1]; rfl, by rw [h0.1]; rfl, h0.2.1, h0.2.2.1, by rw [h2.1]; rfl, h2.2.2.1, by rw [h3.1]; rfl, h3.2.2.1, by omega⟩
end

set_option maxHeartbeats 4000000 in
theorem estep2_any (w : World) (s : Ez) (b b2 : Nat) (by_ it since : Int) (hs : (allI (s.dl b b2 by_)).P w) (he : 0 ≤ s.ep) (he2 : s.ep ≤ 1000) (hf : s.freed.length ≤ 10000) :
    Calls Try.prog 106 #[.agg #[.int .i64 it, .int .i64 since], .pointer (some ⟨b, 0, none⟩), .pointer (some ⟨b2, 0, none⟩)] w fun e w' => e = .returned (.bool (eold s.ep (it, since))) ∧
      ∃ A n c, Sep (allI (s.dl b b2 by_)).fp w w' [allI (Ez.dl { s with Af := A, nf := n, cf := c, freed := s.freed ++ egone s.ep by_ [(it, since)] } b b2 by_)] := by
  have hS := (Sep.start hs).flat
  obtain ⟨f1, f2, f3, f4, f5, f6, f7, f8, f9⟩ := Ez.dfacts (l := []) (by simpa using hS)
  cases hq : eold s.ep (it, since) with
  | false =>
    have HE : Hid (egone s.ep by_ [(it, since)] = []) := by unfold egone; simp [hq, Hid]
    have h1 : decide (since ≤ s.ep - 2) = false := hq
    clear hq f9
    go_enter Try.func106, Try.ntmps106
    go_wp2_with fail
    go_quiet (fail)
    go_wp2_with fail
    go_ret
    refine ⟨rfl, s.Af, s.nf, s.cf, ?_⟩
    rw [HE.out, List.append_nil]
    exact (Sep.start hs).below (by repeat (first | with_reducible exact Below.refl _ _ | with_reducible (refine Below.setCell ?_ (by first | omega | (simp; done) | (simp; omega)) _) | with_reducible (refine Below.alloc ?_ (by first | omega | (simp; done) | (simp; omega)) _) | with_reducible refine Below.drew ?_ | with_reducible refine below_drewN ?_ _))
  | true =>
    have HE : Hid (egone s.ep by_ [(it, since)] = [(it, by_)]) := by unfold egone; simp [hq, Hid]
    have h1 : decide (since ≤ s.ep - 2) = true := hq
    have hfl : s.nf ≤ 10000 := by omega
    clear hq f9 hf
    go_enter Try.func106, Try.ntmps106
    go_wp2_with fail
    go_quiet (fail)
    go_wp2_with fail
    have hSb := fun n => (hS.alloc (.cells #[.int .i64 it, .int .i64 since] 134)).drewN n
    clear hs h1 he he2 hS
    go_region_law (first
      | (refine step_app1 (cs := #[.int .i64 it, .int .i64 by_]) rfl (.tmp 19) (.tmp 24) 39 rfl (F := (allI (s.dl b b2 by_)).fp) (W := w) sFate (items := s.dl b b2 by_) (by repeat (first | exact hSb _ | refine Sep.drew ?_ | refine Sep.drewN ?_ _)) 1 (n := s.nf) rfl rfl rfl (by simp) rfl rfl (by omega) ?_
         intro A2 c2 w2 hS2 hC2
         obtain ⟨g1, g2, g3⟩ := hS2.rules 0 (g := s.gw) (t := 130) (cs := s.cells) rfl
         obtain ⟨k1, k2, k3⟩ := hS2.rules 2 (g := b) (t := 126) (cs := #[.pointer (some ⟨s.gw, 0, none⟩)]) rfl
         (have g4 : w2.cell? ⟨s.gw, 3, none⟩ = some (.slice s.Af s.nf s.cf) := by rw [g1]; rfl)
         (have k4 : w2.cell? ⟨b, 0, none⟩ = some (.pointer (some ⟨s.gw, 0, none⟩)) := by rw [k1]; rfl)
         clear g1 k1 k2 k3 g3))
    all_goals
      go_wp2_with fail
      go_ret
      refine ⟨rfl, A2, s.nf + 1, c2, ?_⟩
      have h5 := hS2.set_ 0 (g := s.gw) (t := 130) (cs := s.cells) rfl 3 (.slice A2 (s.nf + 1) c2)
      rw [HE.out]
      exact Sep.fold (l := [_, _, _, _]) (by simpa [Ez.dl, Ez.cells, efates_app] using h5)
end Go.Proofs.Ytpbafmdebflbpaa
