/- epoch: a thread lays an item by. -/
import Derived.Test.YtpbafmdebflbpaaEpF
namespace Go.Proofs.Ytpbafmdebflbpaa
open Go.RowKit

theorem sWait : SliceT Try.prog 128 134 2 16 := SliceT.mk_ Try.underlying128 (z := .agg #[.int .i64 0, .int .i64 0]) (by kernel_rfl) rfl (by omega)

set_option maxHeartbeats 4000000 in
theorem edoes_retire (w : World) (s : Ez) (it x : Int) (k : Nat) (hs : s.item.P w) (hk : k < s.nt) (hx : s.ths[k]? = some x) (h : (x != -1) = true) (hw : s.nw < 100) :
    Calls Try.prog 72 #[.pointer (some ⟨s.gw, 0, none⟩), edeed 3 k it] w fun e w' => ∃ A n c, e = .returned (.int .i64 0) ∧ Sep s.item.fp w w' [Ez.item { s with Aw := A, nw := n, cw := c, waits := s.waits ++ [(it, s.ep)] }] := by
  have hS0 := (Sep.start hs).flat
  obtain ⟨f1, f2, f3, f4, f5, f6, f7, f8⟩ := Ez.facts (l := []) (by simpa using hS0)
  obtain ⟨g, x', hA, hx', hc, hfz, hgl, hne⟩ := Ez.who (l := []) (by simpa using hS0) hk
  obtain rfl : x' = x := by rw [hx] at hx'; exact (Option.some.inj hx').symm
  have hSb : ∀ n, Sep s.item.fp w ((w.alloc (.cells #[.int .i64 3, .int .i64 k, .int .i64 it] 102)).drewN n) s.items := fun n => (hS0.alloc (.cells #[.int .i64 3, .int .i64 k, .int .i64 it] 102)).drewN n
  have hw2 : ((s.nw : Int) == 100) = false := by rw [beq_eq_false_iff_ne]; omega
  rw [hA] at f2
  unfold edeed
  clear f4 f7 f8 hA hx hx' hs hS0
  go_enter Try.func72, Try.ntmps72
  go_wp2_with fail
  go_quiet (fail)
  go_wp2_with fail
  clear f2 hc hfz hgl hne
  go_region_law (first
    | (refine step_app1 (cs := #[.int .i64 it, .int .i64 s.ep]) rfl (.tmp 49) (.tmp 57) 128 rfl (F := s.item.fp) (W := w) sWait (items := s.items) (by repeat (first | exact hSb _ | refine Sep.drew ?_ | refine Sep.drewN ?_ _)) 2 (n := s.nw) rfl rfl rfl (by simp) rfl rfl (by omega) ?_
       intro A2 c2 w2 hS2 hC2
       obtain ⟨g1, g2, g3⟩ := hS2.rules 0 (g := s.gw) (t := 130) (cs := s.cells) rfl
       (have g4 : w2.cell? ⟨s.gw, 2, none⟩ = some (.slice s.Aw s.nw s.cw) := by rw [g1]; rfl)
       clear g1 g3))
  all_goals
    go_wp2_with fail
    go_ret
    refine ⟨rfl, A2, s.nw + 1, c2, ?_⟩
    have h5 := hS2.set_ 0 (g := s.gw) (t := 130) (cs := s.cells) rfl 2 (.slice A2 (s.nw + 1) c2)
    exact Sep.fold (l := [_, _, _, _]) (by simpa [Ez.items, Ez.cells, efates_app] using h5)
end Go.Proofs.Ytpbafmdebflbpaa
