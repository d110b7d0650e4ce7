/- The law EpochPlays: the walk. -/
import Derived.Test.YtpbafmdebflbpaaEpR
namespace Go.Proofs.Ytpbafmdebflbpaa
open Go.RowKit

set_option maxRecDepth 100000 in
set_option maxHeartbeats 1600000 in
theorem epochPlays_walk (w : World) (threads : Int) (A : Option Addr) (n c : Nat) (l : List Deed) (hn : n ≤ 9223372036854775807) (hl : Rd w (fun _ => True) 3 A n (deeds l)) :
    Calls Try.prog 8 #[.int .i64 threads, .slice A n c] w fun e w' => e = .returned (.bool true) ∧ Below w.heap.size w w' := by
  by_cases hbad : threads < 1 ∨ 4 < threads ∨ 100 < n
  · have hx : ∃ x : Int, (if threads < 1 ∨ 4 < threads then (3 : Int) else 1) = x ∧ (if threads < 1 ∨ 4 < threads then (3 : Int) else if 100 < n then 1 else 0) = x ∧ x ≠ 0 := by
      by_cases h1 : threads < 1 ∨ 4 < threads
      · exact ⟨3, by rw [if_pos h1], by rw [if_pos h1], by omega⟩
      · exact ⟨1, by rw [if_neg h1], by rw [if_neg h1, if_pos (by omega)], by omega⟩
    obtain ⟨x, hx1, hx2, hx3⟩ := hx
    have c1 := eplay_bad w threads A n c hbad hn
    have c2 := fun w' => threadsCheck_any w' threads A n c
    rw [hx1] at c1
    rw [hx2] at c2
    have C1 := hide c1
    have C2 := hide c2
    have y1 : (x != 0) = true := by rw [bne_iff_ne]; exact hx3
    have y2 : (x == 0) = false := by simp [hx3]
    clear c1 c2 hx1 hx2 hx3 hbad hl
    go_enter Try.func8, Try.ntmps8
    go_wp2_with fail
    refine C1.out.mono ?_
    rintro e w1 ⟨rfl, hb1⟩
    go_wp2_with fail
    refine (C2.out _).mono ?_
    rintro e w2 ⟨rfl, rfl⟩
    go_wp2_with fail
    refine (freeings_any _ w1 w1 _ _ [] [] [] (by simp) (by simp) (by simp) ⟨none, 0, 0, none, 0, 0, none, 0, 0, rfl, Rd.nil, Rd.nil, Rd.nil⟩ ⟨none, 0, 0, none, 0, 0, none, 0, 0, rfl, Rd.nil, Rd.nil, Rd.nil⟩).mono ?_
    rintro e w3 ⟨rfl, hb3⟩
    have hz1 := hb1.size
    have hz3 := hb3.size
    simp at hz3
    go_wp2_with fail
    go_ret
    exact ⟨rfl, (by repeat (first | with_reducible exact Below.refl _ _ | with_reducible (refine Below.setCell ?_ (by first | omega | (simp; done) | (simp; omega)) _) | with_reducible (refine Below.alloc ?_ (by first | omega | (simp; done) | (simp; omega)) _) | with_reducible refine Below.drew ?_ | with_reducible refine below_drewN ?_ _ | with_reducible (refine Below.trans ?_ (Below.mono hb3 (by first | omega | (simp; done) | (simp; omega)))) | with_reducible (refine Below.trans ?_ (Below.mono hb1 (by first | omega | (simp; done) | (simp; omega))))))⟩
  · obtain ⟨N, rfl⟩ := Int.eq_ofNat_of_zero_le (show 0 ≤ threads by omega)
    have hN1 : 1 ≤ N := by omega
    have hN2 : N ≤ 4 := by omega
    have hn1 : n ≤ 100 := by omega
    have c2 := fun w' => threadsCheck_any w' N A n c
    rw [if_neg (by omega), if_neg (by omega)] at c2
    have C2 := hide c2
    have o1 := EM.at_ok N l n
    have c1 := eplay_ok w N A n c l hN1 hN2 hn1 hl
    have c3 := fun w' (hb : Below w.heap.size w w') => epref_ok w' N A n c l hN1 hN2 hn1 (hl.below hb)
    obtain ⟨cs, hcs⟩ : ∃ cs, (EM.at (EM.start N) l n).1 = cs := ⟨_, rfl⟩
    obtain ⟨m, hm⟩ : ∃ m, (EM.at (EM.start N) l n).2 = m := ⟨_, rfl⟩
    rw [hcs, hm] at c1 o1
    simp only [hcs, hm] at c3
    have lc : cs.length ≤ 1000 := by omega
    have lall := o1.1.all
    have lf : m.freed.length ≤ 1000 := by omega
    have lw : (m.waits.map Prod.fst).length ≤ 1000 := by simp; omega
    obtain ⟨fs, hfs⟩ : ∃ fs, m.freed = fs := ⟨_, rfl⟩
    obtain ⟨ws, hws⟩ : ∃ ws, m.waits.map Prod.fst = ws := ⟨_, rfl⟩
    rw [hfs] at lf
    rw [hws] at lw
    rw [hfs, hws] at c1
    simp only [hfs, hws] at c3
    have C1 := hide c1
    have C3 := hide c3
    clear c1 c2 c3 o1 hcs hm hfs hws lall hbad
    go_enter Try.func8, Try.ntmps8
    go_wp2_with fail
    refine C1.out.mono ?_
    rintro e w1 ⟨v, rfl, hb1, hf1⟩
    obtain ⟨A1, n1, c1, A2, n2, c2, A3, n3, c3, rfl, f1, f2, f3⟩ := hf1
    go_wp2_with fail
    refine (C2.out _).mono ?_
    rintro e w2 ⟨rfl, rfl⟩
    go_wp2_with fail
    have hz1 := hb1.size
    go_region_law (first
      | (go_simp
         go_at_call 35
         refine (C3.out _ (by repeat (first | with_reducible exact Below.refl _ _ | with_reducible (refine Below.setCell ?_ (by first | omega | (simp; done) | (simp; omega)) _) | with_reducible (refine Below.alloc ?_ (by first | omega | (simp; done) | (simp; omega)) _) | with_reducible refine Below.drew ?_ | with_reducible refine below_drewN ?_ _ | with_reducible (refine Below.trans ?_ (Below.mono hb1 (by first | omega | (simp; done) | (simp; omega))))))).mono ?_
         rintro e w3 ⟨v3, rfl, hb3, hf3⟩
         obtain ⟨q1, q2, q3⟩ := ((Blk.new w1 42 #[.slice A1 n1 c1, .slice A2 n2 c2, .slice A3 n3 c3]).drew.below_ hb3).rules
         (have hA : FreeingRd w w3 (.agg #[.slice A1 n1 c1, .slice A2 n2 c2, .slice A3 n3 c3]) cs fs ws := FreeingRd.below ⟨A1, n1, c1, A2, n2, c2, A3, n3, c3, rfl, f1, f2, f3⟩ ((((Below.refl _ w1).alloc (Nat.le_refl _) _).drew).trans (hb3.mono (by simp))))
         obtain ⟨B1, m1, d1, B2, m2, d2, B3, m3, d3, rfl, g1, g2, g3⟩ := hf3)
      | (go_simp
         go_at_call 24
         refine (freeings_any w3 w _ _ _ cs fs ws lc lf lw hA ⟨B1, m1, d1, B2, m2, d2, B3, m3, d3, rfl, g1, g2, g3⟩).mono ?_
         rintro e w4 ⟨rfl, hb4⟩))
    all_goals
      go_wp2_with fail
      go_ret
      have hz3 := hb3.size
      simp at hz3
      exact ⟨rfl, (((hb1.trans (((Below.refl _ w1).alloc hz1 _).drew)).trans (hb3.mono (by simp; omega))).trans (hb4.mono (by omega)))⟩
end Go.Proofs.Ytpbafmdebflbpaa
