/- move: mover.move, the easy cases. -/
import Derived.Test.YtpbafmdebflbpaaMvA
namespace Go.Proofs.Ytpbafmdebflbpaa
open Go.RowKit Go.Maps

set_option maxHeartbeats 400000 in
theorem mv_num (w : World) (m : Nat) (x : Int) (h1 : 0 ≤ x) (h2 : x ≤ 18446744073709551615) (h3 : x % 2 = 1) :
    Calls Try.prog 65 #[.pointer (some ⟨m, 0, none⟩), .int .u64 x] w fun e w' => e = .returned (.int .u64 x) ∧ w' = w := by
  have C := hide (ref_num w x h1 h2 h3)
  clear h1 h2 h3
  go_enter Try.func65, Try.ntmps65
  go_wp2_with fail
  refine C.out.mono ?_
  rintro e w1 ⟨rfl, rfl⟩
  go_wp2_with fail
  go_ret
  first | exact ⟨rfl, rfl⟩ | exact rfl

theorem zeroInt_ (w : World) : (zeroValue 3).run Try.prog w = .ok (.int .i64 0) w := Try.zeroValue3 w

set_option maxRecDepth 100000 in
set_option maxHeartbeats 4000000 in
theorem mv_there (w : World) (m b n : Nat) (D : DataW Unit) (A1 A2 : Option Addr) (n1 c1 n2 c2 q : Nat) (x : Int) (h1 : 0 ≤ x) (h3 : x % 2 = 0) (h4 : x < 512) (hb : Blk w m 119 #[.slice A1 n1 c1, .slice A2 n2 c2, .map (some b)])
    (hm : w.ownsMap Try.prog 3 (plainElem Try.prog 3) b n D) (hhas : Maps.has D (.int .i64 (x / 2)) = true) (hat : ∀ z, D.atKey (.int .i64 (x / 2)) z = .lit (.int .i64 q)) (hq : q < 256) :
    Calls Try.prog 65 #[.pointer (some ⟨m, 0, none⟩), .int .u64 x] w fun e w' => e = .returned (.int .u64 (2 * (q : Int))) ∧ w' = w := by
  have C := hide (ref_ref w x h1 (by omega) h3)
  obtain ⟨b1, b2, b3⟩ := hb.rules
  have b5 : w.cell? ⟨m, 2, none⟩ = some (.map (some b)) := by rw [b1]; rfl
  obtain ⟨y, hy⟩ : ∃ y, x / 2 = y := ⟨_, rfl⟩
  have hy0 : 0 ≤ y := by omega
  have hy1 : y < 256 := by omega
  rw [hy] at C hhas hat
  have HAT := hide hat
  have hwf : (Lit.int .i64 y).wf = true := WalkArith.wf_i64 (by omega)
  clear h1 h3 h4 hy hat b1
  go_enter Try.func65, Try.ntmps65
  go_wp2_with fail
  refine C.out.mono ?_
  rintro e w1 ⟨rfl, rfl⟩
  clear C
  go_wp2_with (first
    | (at_lookup
       refine wpList_lookup_own_ok_int _ rfl _ _ 117 rfl 3 3 .i64 (int_keyed Try.underlying3) Try.underlying117 Try.underlying3 (zeroInt_ _) b n _ rfl hm _ _ rfl (keyOf_int_mk Try.underlying3 hwf) ?_
       intro c hat hwc
       (obtain rfl : c = (q : Int) := by
          have h9 := (HAT.out (.lit (.int .i64 0))).symm.trans hat
          injection h9 with h9; injection h9 with _ h9; exact h9.symm)
       clear hat hwc)
    | (at_lookup
       refine wpList_lookup_own_int _ rfl _ _ 117 rfl 3 3 .i64 (int_keyed Try.underlying3) Try.underlying117 Try.underlying3 (zeroInt_ _) b n _ rfl hm _ _ rfl (keyOf_int_mk Try.underlying3 hwf) ?_
       intro c hat hwc
       (obtain rfl : c = (q : Int) := by
          have h9 := (HAT.out (.lit (.int .i64 0))).symm.trans hat
          injection h9 with h9; injection h9 with _ h9; exact h9.symm)
       clear hat hwc))
  go_ret
  exact ⟨ret_int (a := (q : Int) * 2) (by omega), rfl⟩
end Go.Proofs.Ytpbafmdebflbpaa
