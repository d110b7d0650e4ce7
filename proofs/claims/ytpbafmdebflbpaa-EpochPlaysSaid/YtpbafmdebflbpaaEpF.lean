/- epoch: a deed of a thread. -/
import Derived.Test.YtpbafmdebflbpaaEpE
namespace Go.Proofs.Ytpbafmdebflbpaa
open Go.RowKit

def edeed (k who it : Int) : Value := .agg #[.int .i64 k, .int .i64 who, .int .i64 it]

section
variable {F : Nat → Prop} {W w : World} {s : Ez}
theorem ints_set (l : List Int) (k : Nat) (x : Int) : (ints l).set k (.int .i64 x) = ints (l.set k x) := by
  unfold ints; rw [List.map_set]
/-- A thread's cell. -/
theorem Ez.who {l : List Item} {k : Nat} (h : Sep F W w (s.items ++ l)) (hk : k < s.nt) : ∃ (g : Nat) (x : Int), s.At = some ⟨g, 0, none⟩ ∧ s.ths[k]? = some x ∧ w.cell? ⟨g, k, none⟩ = some (.int .i64 x) ∧ w.frozen? ⟨g, k, none⟩ = false ∧ g < w.heap.size ∧ g ≠ s.gw := by
  have hrow : w.ownsRow 0 3 1 (.slice s.At s.nt s.ct) s.nt (ints s.ths) := h.get 1 rfl
  have hl : s.ths.length = s.nt := by have := hrow.1; simpa using this
  obtain ⟨g, cap, hA, _, hg⟩ := hrow.form (by omega)
  injection hA with hA _ hcap
  have hat : ∀ A', A' = s.At → (Sep F W w (s.items ++ l)) → (rowI 3 1 s.At s.nt s.ct (ints s.ths)).fp g := fun A' _ _ => by rw [hA]; rfl
  have hne : g ≠ s.gw := fun e => by
    have := h.other (a := 1) (b := 0) (x := rowI 3 1 s.At s.nt s.ct (ints s.ths)) (y := blkI s.gw 130 s.cells) rfl rfl (by omega) g (hat _ rfl h)
    exact this e
  rw [hA] at hrow
  refine ⟨g, s.ths[k]'(by omega), hA, List.getElem?_eq_getElem (by omega), ?_, hrow.frozenAt k, hg, hne⟩
  rw [hrow.cellAt k (by omega)]
  simp [ints, List.getElem?_eq_getElem (show k < s.ths.length by omega)]
theorem Ez.setTh {k g : Nat} {x : Int} (h : Sep F W w s.items) (hA : s.At = some ⟨g, 0, none⟩) :
    Sep F W (w.setCell ⟨g, k, none⟩ (.int .i64 x)) (Ez.items { s with ths := s.ths.set k x }) := by
  have h1 : s.items[1]? = some (rowI 3 1 (some ⟨g, 0, none⟩) s.nt s.ct (ints s.ths)) := by rw [← hA]; rfl
  have h2 := h.store 1 h1 k (.int .i64 x)
  rw [ints_set] at h2
  have e : Ez.items { s with ths := s.ths.set k x } = s.items.set 1 (rowI 3 1 (some ⟨g, 0, none⟩) s.nt s.ct (ints (s.ths.set k x))) := by
    rw [← hA]; rfl
  rw [e]
  exact h2
end

set_option maxHeartbeats 1600000 in
theorem edoes_hold (w : World) (s : Ez) (kind it : Int) (k : Nat) (x : Int) (hs : s.item.P w) (hk : k < s.nt) (hx : s.ths[k]? = some x) (h : (x != -1) = (kind == 1)) :
    Calls Try.prog 72 #[.pointer (some ⟨s.gw, 0, none⟩), edeed kind k it] w fun e w' => e = .returned (.int .i64 8) ∧ Sep s.item.fp w w' [s.item] := by
  have hS0 := (Sep.start hs).flat
  obtain ⟨f1, f2, f3, f4, f5, f6, f7, f8⟩ := Ez.facts (l := []) (by simpa using hS0)
  obtain ⟨g, x', hA, hx', hc, hfz, hgl, hne⟩ := Ez.who (l := []) (by simpa using hS0) hk
  obtain rfl : x' = x := by rw [hx] at hx'; exact (Option.some.inj hx').symm
  rw [hA] at f2
  unfold edeed
  clear f3 f4 f7 f8 hA
  cases hq : (kind == 1) with
  | true =>
    have h2 : (x' != -1) = true := h.trans hq
    clear h
    go_enter Try.func72, Try.ntmps72
    go_wp2_with fail
    go_quiet (fail)
    go_wp2_with fail
    go_ret
    exact ⟨rfl, (Sep.start hs).below (by repeat (first | with_reducible exact Below.refl _ _ | with_reducible (refine Below.setCell ?_ (by first | omega | (simp; done) | (simp; omega)) _) | with_reducible (refine Below.alloc ?_ (by first | omega | (simp; done) | (simp; omega)) _) | with_reducible refine Below.drew ?_ | with_reducible refine below_drewN ?_ _))⟩
  | false =>
    have h2 : (x' != -1) = false := h.trans hq
    clear h
    go_enter Try.func72, Try.ntmps72
    go_wp2_with fail
    go_quiet (fail)
    go_wp2_with fail
    go_ret
    exact ⟨rfl, (Sep.start hs).below (by repeat (first | with_reducible exact Below.refl _ _ | with_reducible (refine Below.setCell ?_ (by first | omega | (simp; done) | (simp; omega)) _) | with_reducible (refine Below.alloc ?_ (by first | omega | (simp; done) | (simp; omega)) _) | with_reducible refine Below.drew ?_ | with_reducible refine below_drewN ?_ _))⟩

set_option maxHeartbeats 1600000 in
theorem edoes_enter (w : World) (s : Ez) (it : Int) (k : Nat) (hs : s.item.P w) (hk : k < s.nt) (hx : s.ths[k]? = some (-1)) :
    Calls Try.prog 72 #[.pointer (some ⟨s.gw, 0, none⟩), edeed 1 k it] w fun e w' => e = .returned (.int .i64 0) ∧ Sep s.item.fp w w' [Ez.item { s with ths := s.ths.set k s.ep }] := by
  have hS0 := (Sep.start hs).flat
  obtain ⟨f1, f2, f3, f4, f5, f6, f7, f8⟩ := Ez.facts (l := []) (by simpa using hS0)
  obtain ⟨g, x', hA, hx', hc, hfz, hgl, hne⟩ := Ez.who (l := []) (by simpa using hS0) hk
  obtain rfl : x' = -1 := by rw [hx] at hx'; exact (Option.some.inj hx').symm
  have HA := hide hA
  have HS := hide (hS0.alloc (.cells #[.int .i64 1, .int .i64 k, .int .i64 it] 102))
  rw [hA] at f2
  unfold edeed
  clear f3 f4 f7 f8 hA hS0 hx hx' hs
  go_enter Try.func72, Try.ntmps72
  go_wp2_with fail
  go_quiet (fail)
  go_wp2_with fail
  go_ret
  exact ⟨rfl, (Ez.setTh (k := k) (HS.out.drewN _) HA.out).fold⟩

set_option maxHeartbeats 1600000 in
theorem edoes_leave (w : World) (s : Ez) (it x : Int) (k : Nat) (hs : s.item.P w) (hk : k < s.nt) (hx : s.ths[k]? = some x) (h : (x != -1) = true) :
    Calls Try.prog 72 #[.pointer (some ⟨s.gw, 0, none⟩), edeed 2 k it] w fun e w' => e = .returned (.int .i64 0) ∧ Sep s.item.fp w w' [Ez.item { s with ths := s.ths.set k (-1) }] := by
  have hS0 := (Sep.start hs).flat
  obtain ⟨f1, f2, f3, f4, f5, f6, f7, f8⟩ := Ez.facts (l := []) (by simpa using hS0)
  obtain ⟨g, x', hA, hx', hc, hfz, hgl, hne⟩ := Ez.who (l := []) (by simpa using hS0) hk
  obtain rfl : x' = x := by rw [hx] at hx'; exact (Option.some.inj hx').symm
  have HA := hide hA
  have HS := hide (hS0.alloc (.cells #[.int .i64 2, .int .i64 k, .int .i64 it] 102))
  rw [hA] at f2
  unfold edeed
  clear f3 f4 f7 f8 hA hS0 hx hx' hs
  go_enter Try.func72, Try.ntmps72
  go_wp2_with fail
  go_quiet (fail)
  go_wp2_with fail
  go_ret
  exact ⟨rfl, (Ez.setTh (k := k) (HS.out.drewN _) HA.out).fold⟩

set_option maxHeartbeats 1600000 in
theorem edoes_full (w : World) (s : Ez) (it x : Int) (k : Nat) (hs : s.item.P w) (hk : k < s.nt) (hx : s.ths[k]? = some x) (h : (x != -1) = true) (hw : s.nw = 100) :
    Calls Try.prog 72 #[.pointer (some ⟨s.gw, 0, none⟩), edeed 3 k it] w fun e w' => e = .returned (.int .i64 6) ∧ Sep s.item.fp w w' [s.item] := by
  have hS0 := (Sep.start hs).flat
  obtain ⟨f1, f2, f3, f4, f5, f6, f7, f8⟩ := Ez.facts (l := []) (by simpa using hS0)
  obtain ⟨g, x', hA, hx', hc, hfz, hgl, hne⟩ := Ez.who (l := []) (by simpa using hS0) hk
  obtain rfl : x' = x := by rw [hx] at hx'; exact (Option.some.inj hx').symm
  rw [hA] at f2
  rw [hw] at f3
  unfold edeed
  clear f4 f7 f8 hA hx hx'
  go_enter Try.func72, Try.ntmps72
  go_wp2_with fail
  go_quiet (fail)
  go_wp2_with fail
  go_ret
  exact ⟨rfl, (Sep.start hs).below (by repeat (first | with_reducible exact Below.refl _ _ | with_reducible (refine Below.setCell ?_ (by first | omega | (simp; done) | (simp; omega)) _) | with_reducible (refine Below.alloc ?_ (by first | omega | (simp; done) | (simp; omega)) _) | with_reducible refine Below.drew ?_ | with_reducible refine below_drewN ?_ _))⟩
end Go.Proofs.Ytpbafmdebflbpaa
